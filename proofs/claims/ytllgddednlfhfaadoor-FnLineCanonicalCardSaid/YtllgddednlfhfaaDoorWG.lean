/- Merged: W60 W61 W62 W63 W64 W65 W66 W67 W68 W69 -/
import Derived.Test.YtllgddednlfhfaaDoorPL
import Derived.Test.YtllgddednlfhfaaDoorEng29
import Derived.Test.YtllgddednlfhfaaDoorEng24
import Derived.Test.YtllgddednlfhfaaDoorW1
import Derived.Test.YtllgddednlfhfaaDoorEng27
import Derived.Test.YtllgddednlfhfaaDoorWS
import Derived.Test.YtllgddednlfhfaaDoorEng21
import Derived.Test.YtllgddednlfhfaaDoorW17
import Derived.Test.YtllgddednlfhfaaDoorW28
import Derived.Test.YtllgddednlfhfaaDoorEng31
/-
  Cutting strings: the walks.
-/
namespace Go.Proofs.YtllgddednlfhfaaDoor
open Go.RowKit
set_option linter.unusedVariables false
set_option linter.unusedSimpArgs false
attribute [local irreducible] AL AW OpX Le AD

theorem c_IndexByte (s : Str) (c : UInt8) {r : Int} (hr : Lib.indexByte s c = r) : Con Tryd.prog 92 [rStr s, .one (.c (.raw (.int .u8 c.toNat)))] [] (fun rs all => rs = [rI r] ∧ all = []) := by
  refine con_of_aw (vars := [.tmp 4]) [(0, .r (rStr s)), (1, .r (.one (.c (.raw (.int .u8 c.toNat)))))] [] 0 Tryd.func92 (by kernel_rfl) rfl Tryd.ntmps92 rfl (by decide) rfl rfl rfl rfl rfl ?_; intro B M w0 ρ0 Z0
  repeat' (first | (refine is_al ?_; (first | (refine is_move ?_; refine al_v (opx_move (.raw _)) ⟨rfl, trivial⟩ trivial rfl ?_) | (refine is_assign ?_; refine al_v (opx_assign (.raw _)) ⟨rfl, trivial⟩ trivial rfl ?_) | refine al_nil ?_ | refine al_v (opx_idxByte Tryd.func105 (by kernel_rfl) (by kernel_rfl) (by kernel_rfl) (by kernel_rfl) hr) ⟨rfl, rfl, trivial⟩ trivial rfl ?_)) | (refine is_ad ?_; refine al_v (opx_idxByte Tryd.func105 (by kernel_rfl) (by kernel_rfl) (by kernel_rfl) (by kernel_rfl) hr) ⟨rfl, rfl, trivial⟩ trivial rfl ?_) | (refine is_aw ?_; (first | refine aw_seq ?_ | refine aw_region ?_ | refine aw_ret ?_)))
  exact ret_raw trivial rfl ⟨rfl, rfl⟩
theorem c_Index (s : Str) (c : UInt8) {r : Int} (hr : Lib.indexByte s c = r) : Con Tryd.prog 77 [rStr s, rStr [c]] [] (fun rs all => rs = [rI r] ∧ all = []) := by
  refine con_of_aw (vars := [.tmp 4]) [(0, .r (rStr s)), (1, .r (rStr [c]))] [] 0 Tryd.func77 (by kernel_rfl) rfl Tryd.ntmps77 rfl (by decide) rfl rfl rfl rfl rfl ?_; intro B M w0 ρ0 Z0
  have hc : [c][0]? = some c := rfl
  have l1 : ([c] : Str).length = 1 := rfl
  have d0 : decide ((([c] : Str).length : Int) = 0) = false := rfl
  have d1 : decide ((([c] : Str).length : Int) = 1) = true := rfl
  by_cases h : [c] = s
  · subst h
    have d2 : decide ([c] = [c]) = true := eqD _
    have h0 : r = 0 := by rw [← hr]; simp [Lib.indexByte]
    repeat' (first | (refine is_al ?_; (first | (refine is_gd ?_; refine al_on rfl rfl rfl (by assumption) ?_) | (refine is_move ?_; refine al_v (opx_move (.raw _)) ⟨rfl, trivial⟩ trivial rfl ?_) | (refine is_bin ?_; (first | refine al_v opx_eql ⟨rfl, rfl, trivial⟩ trivial rfl ?_ | refine al_v opx_seql ⟨rfl, rfl, trivial⟩ trivial rfl ?_)) | (refine is_assign ?_; refine al_v (opx_assign (.raw _)) ⟨rfl, trivial⟩ trivial rfl ?_) | (refine is_pick ?_; refine al_v (opx_pick_f (.raw _) rfl) ⟨rfl, rfl, trivial⟩ trivial rfl ?_) | (refine is_bi ?_; refine al_v opx_len_str ⟨rfl, trivial⟩ trivial rfl ?_) | refine al_nil ?_)) | (refine is_aw ?_; (first | refine aw_seq ?_ | refine aw_region ?_ | refine aw_block ?_ | refine aw_ret ?_ | (refine is_cond ?_; refine aw_cond_t rfl (by assumption) ?_))) | refine thn_r ?_ | refine inb_r ?_)
    exact ret_raw trivial rfl ⟨by rw [h0], rfl⟩
  · have d2 : decide ([c] = s) = false := decide_eq_false h
    repeat' (first | (refine is_al ?_; (first | (refine is_gd ?_; refine al_on rfl rfl rfl (by assumption) ?_) | (refine is_move ?_; refine al_v (opx_move (.raw _)) ⟨rfl, trivial⟩ trivial rfl ?_) | (refine is_bin ?_; (first | refine al_v opx_eql ⟨rfl, rfl, trivial⟩ trivial rfl ?_ | refine al_v opx_seql ⟨rfl, rfl, trivial⟩ trivial rfl ?_)) | (refine is_assign ?_; refine al_v (opx_assign (.raw _)) ⟨rfl, trivial⟩ trivial rfl ?_) | (refine is_pick ?_; refine al_v (opx_pick_f (.raw _) rfl) ⟨rfl, rfl, trivial⟩ trivial rfl ?_) | (refine is_bi ?_; refine al_v opx_len_str ⟨rfl, trivial⟩ trivial rfl ?_) | (refine is_call ?_; refine al_callF (by (repeat (first | exact .nil | refine .one rfl rfl ?_ | refine .froz rfl rfl ?_ | refine .rnil rfl ?_ | refine .agg rfl (by (repeat (first | exact .nil | refine .cons (.same rfl) ?_ | refine .cons (.froz rfl) ?_ | refine .cons (.rnil) ?_)); (first | done | fail)) ?_)); (first | done | fail)) rfl (c_IndexByte s c hr) rfl ?_) | refine al_nil ?_ | refine al_v (opx_sidx (k := 0) rfl hc) ⟨rfl, rfl, trivial⟩ trivial rfl ?_)) | (refine is_ad ?_; refine al_v (opx_sidx (k := 0) rfl hc) ⟨rfl, rfl, trivial⟩ trivial rfl ?_) | (refine is_aw ?_; (first | refine aw_seq ?_ | refine aw_region ?_ | refine aw_block ?_ | refine aw_ret ?_ | (refine is_cond ?_; (first | refine aw_cond_t rfl rfl ?_ | refine aw_cond_f rfl (by assumption) ?_)))) | refine thn_r ?_ | refine inb_r ?_)
    exact ret_raw trivial rfl ⟨rfl, rfl⟩
theorem c_Cut0_t (x r : Str) (c : UInt8) (hx : c ∉ x) (hl : x.length + r.length ≤ 9000000000000000000) : Con Tryd.prog 66 [rStr (x ++ c :: r), rStr [c]] [] (fun rs all => rs = [rStr x, rStr r, rB true] ∧ all = []) := by
  refine con_of_aw (vars := [.tmp 4, .tmp 5, .tmp 6]) [(0, .r (rStr (x ++ c :: r))), (1, .r (rStr [c]))] [] 0 Tryd.func66 (by kernel_rfl) rfl Tryd.ntmps66 rfl (by decide) rfl rfl rfl rfl rfl ?_; intro B M w0 ρ0 Z0
  have d0 : decide (0 ≤ (x.length : Int)) = true := decide_eq_true (by omega)
  have l1 : ([c] : Str).length = 1 := rfl
  have l2 : (x ++ c :: r).length = x.length + (r.length + 1) := by rw [List.length_append, List.length_cons]
  have e1 : ((x ++ c :: r).take x.length).drop 0 = x := by rw [List.drop_zero, List.take_left']; rfl
  have e2 : ((x ++ c :: r).take (x ++ c :: r).length).drop (x.length + 1) = r := by
    rw [List.take_length, show x.length + 1 = (x ++ [c]).length by simp, show x ++ c :: r = (x ++ [c]) ++ r by simp, List.drop_left']; rfl
  repeat' (first | (refine is_al ?_; (first | (refine is_move ?_; refine al_v (opx_move (.raw _)) ⟨rfl, trivial⟩ trivial rfl ?_) | (refine is_bin ?_; refine al_v opx_geq ⟨rfl, rfl, trivial⟩ trivial rfl ?_) | (refine is_assign ?_; refine al_v (opx_assign (.raw _)) ⟨rfl, trivial⟩ trivial rfl ?_) | (refine is_call ?_; refine al_callF (by (repeat (first | exact .nil | refine .one rfl rfl ?_ | refine .froz rfl rfl ?_ | refine .rnil rfl ?_ | refine .agg rfl (by (repeat (first | exact .nil | refine .cons (.same rfl) ?_ | refine .cons (.froz rfl) ?_ | refine .cons (.rnil) ?_)); (first | done | fail)) ?_)); (first | done | fail)) rfl (c_Index _ c (idx_t hx)) rfl ?_) | refine al_nil ?_ | refine ad_v (opx_cutH_str (h := x.length) e1 rfl (by omega)) ⟨rfl, rfl, trivial⟩ trivial rfl ?_ | refine ad_v (opx_cutL_str (l := x.length + 1) e2 (by omega) (by omega)) ⟨rfl, rfl, trivial⟩ trivial rfl ?_)) | (refine is_ad ?_; (first | (refine isd_move ?_; refine ad_v (opx_move (.raw _)) ⟨rfl, trivial⟩ trivial rfl ?_) | (refine isd_bin ?_; refine ad_v (opx_add (by unfold InR; omega)) ⟨rfl, rfl, trivial⟩ trivial rfl ?_) | (refine isd_assign ?_; refine ad_v (opx_assign (.raw _)) ⟨rfl, trivial⟩ trivial rfl ?_) | (refine isd_bi ?_; refine ad_v opx_len_str ⟨rfl, trivial⟩ trivial rfl ?_) | refine ad_nil (by kernel_rfl) ?_ | refine ad_v (opx_cutH_str (h := x.length) e1 rfl (by omega)) ⟨rfl, rfl, trivial⟩ trivial rfl ?_ | refine ad_v (opx_cutL_str (l := x.length + 1) e2 (by omega) (by omega)) ⟨rfl, rfl, trivial⟩ trivial rfl ?_)) | (refine is_aw ?_; (first | refine aw_seq ?_ | refine aw_region ?_ | refine aw_ret ?_ | (refine is_cond ?_; refine aw_cond_t rfl rfl ?_) | refine aw_draw mixed ?_)) | refine thn_r ?_)
  exact ret_raw3 trivial rfl rfl rfl ⟨rfl, rfl⟩
theorem c_Cut0_f (s : Str) (c : UInt8) (hx : c ∉ s) : Con Tryd.prog 66 [rStr s, rStr [c]] [] (fun rs all => rs = [rStr s, rStr [], rB false] ∧ all = []) := by
  refine con_of_aw (vars := [.tmp 4, .tmp 5, .tmp 6]) [(0, .r (rStr s)), (1, .r (rStr [c]))] [] 0 Tryd.func66 (by kernel_rfl) rfl Tryd.ntmps66 rfl (by decide) rfl rfl rfl rfl rfl ?_; intro B M w0 ρ0 Z0
  have d0 : decide ((0 : Int) ≤ -1) = false := rfl
  repeat' (first | (refine is_al ?_; (first | (refine is_move ?_; refine al_v (opx_move (.raw _)) ⟨rfl, trivial⟩ trivial rfl ?_) | (refine is_bin ?_; refine al_v opx_geq ⟨rfl, rfl, trivial⟩ trivial rfl ?_) | (refine is_assign ?_; refine al_v (opx_assign (.raw _)) ⟨rfl, trivial⟩ trivial rfl ?_) | (refine is_call ?_; refine al_callF (by (repeat (first | exact .nil | refine .one rfl rfl ?_ | refine .froz rfl rfl ?_ | refine .rnil rfl ?_ | refine .agg rfl (by (repeat (first | exact .nil | refine .cons (.same rfl) ?_ | refine .cons (.froz rfl) ?_ | refine .cons (.rnil) ?_)); (first | done | fail)) ?_)); (first | done | fail)) rfl (c_Index _ c (idx_f hx)) rfl ?_) | refine al_nil ?_)) | (refine is_aw ?_; (first | refine aw_seq ?_ | refine aw_region ?_ | refine aw_skip ?_ | refine aw_ret ?_ | (refine is_cond ?_; refine aw_cond_f rfl rfl ?_))))
  exact ret_raw3 trivial rfl rfl rfl ⟨rfl, rfl⟩
theorem c_Cut_t (x r : Str) (c : UInt8) (hx : c ∉ x) (hl : x.length + r.length ≤ 9000000000000000000) : Con Tryd.prog 52 [rStr (x ++ c :: r), rStr [c]] [] (fun rs all => rs = [rStr x, rStr r, rB true] ∧ all = []) := by
  refine con_of_aw (vars := [.tmp 4, .tmp 5, .tmp 6]) [(0, .r (rStr (x ++ c :: r))), (1, .r (rStr [c]))] [] 0 Tryd.func52 (by kernel_rfl) rfl Tryd.ntmps52 rfl (by decide) rfl rfl rfl rfl rfl ?_; intro B M w0 ρ0 Z0
  repeat' (first | (refine is_al ?_; (first | (refine is_move ?_; refine al_v (opx_move (.raw _)) ⟨rfl, trivial⟩ trivial rfl ?_) | (refine is_assign ?_; refine al_v (opx_assign (.raw _)) ⟨rfl, trivial⟩ trivial rfl ?_) | (refine is_call ?_; refine al_callF (by (repeat (first | exact .nil | refine .one rfl rfl ?_ | refine .froz rfl rfl ?_ | refine .rnil rfl ?_ | refine .agg rfl (by (repeat (first | exact .nil | refine .cons (.same rfl) ?_ | refine .cons (.froz rfl) ?_ | refine .cons (.rnil) ?_)); (first | done | fail)) ?_)); (first | done | fail)) rfl (c_Cut0_t x r c hx hl) rfl ?_) | refine al_v (opx_extract _ rfl) ⟨rfl, trivial⟩ trivial rfl ?_ | refine al_nil ?_)) | (refine is_aw ?_; (first | refine aw_seq ?_ | refine aw_region ?_ | refine aw_ret ?_)))
  exact ret_raw3 trivial rfl rfl rfl ⟨rfl, rfl⟩
theorem c_Cut_f (s : Str) (c : UInt8) (hx : c ∉ s) : Con Tryd.prog 52 [rStr s, rStr [c]] [] (fun rs all => rs = [rStr s, rStr [], rB false] ∧ all = []) := by
  refine con_of_aw (vars := [.tmp 4, .tmp 5, .tmp 6]) [(0, .r (rStr s)), (1, .r (rStr [c]))] [] 0 Tryd.func52 (by kernel_rfl) rfl Tryd.ntmps52 rfl (by decide) rfl rfl rfl rfl rfl ?_; intro B M w0 ρ0 Z0
  repeat' (first | (refine is_al ?_; (first | (refine is_move ?_; refine al_v (opx_move (.raw _)) ⟨rfl, trivial⟩ trivial rfl ?_) | (refine is_assign ?_; refine al_v (opx_assign (.raw _)) ⟨rfl, trivial⟩ trivial rfl ?_) | (refine is_call ?_; refine al_callF (by (repeat (first | exact .nil | refine .one rfl rfl ?_ | refine .froz rfl rfl ?_ | refine .rnil rfl ?_ | refine .agg rfl (by (repeat (first | exact .nil | refine .cons (.same rfl) ?_ | refine .cons (.froz rfl) ?_ | refine .cons (.rnil) ?_)); (first | done | fail)) ?_)); (first | done | fail)) rfl (c_Cut0_f s c hx) rfl ?_) | refine al_v (opx_extract _ rfl) ⟨rfl, trivial⟩ trivial rfl ?_ | refine al_nil ?_)) | (refine is_aw ?_; (first | refine aw_seq ?_ | refine aw_region ?_ | refine aw_ret ?_)))
  exact ret_raw3 trivial rfl rfl rfl ⟨rfl, rfl⟩
/-! ### the ends -/
theorem c_HasPrefix_t (c : UInt8) (r : Str) : Con Tryd.prog 75 [rStr (c :: r), rStr [c]] [] (fun rs all => rs = [rB true] ∧ all = []) := by
  refine con_of_aw (vars := [.tmp 4]) [(0, .r (rStr (c :: r))), (1, .r (rStr [c]))] [] 0 Tryd.func75 (by kernel_rfl) rfl Tryd.ntmps75 rfl (by decide) rfl rfl rfl rfl rfl ?_; intro B M w0 ρ0 Z0
  have l1 : ([c] : Str).length = 1 := rfl
  have l2 : (c :: r : Str).length = r.length + 1 := rfl
  have d0 : decide ((([c] : Str).length : Int) ≤ ((c :: r : Str).length : Int)) = true := decide_eq_true (by omega)
  have e1 : ((c :: r : Str).take 1).drop 0 = [c] := rfl
  repeat' (first | (refine is_al ?_; (first | (refine is_gd ?_; refine al_on rfl rfl rfl (by assumption) ?_) | (refine is_move ?_; refine al_v (opx_move (.raw _)) ⟨rfl, trivial⟩ trivial rfl ?_) | (refine is_bin ?_; (first | refine al_v opx_geq ⟨rfl, rfl, trivial⟩ trivial rfl ?_ | refine al_v opx_seql ⟨rfl, rfl, trivial⟩ trivial rfl ?_)) | (refine is_assign ?_; refine al_v (opx_assign (.raw _)) ⟨rfl, trivial⟩ trivial rfl ?_) | (refine is_pick ?_; refine al_v (opx_pick_t (.raw _) (by assumption)) ⟨rfl, rfl, trivial⟩ trivial rfl ?_) | (refine is_bi ?_; refine al_v opx_len_str ⟨rfl, trivial⟩ trivial rfl ?_) | refine al_nil ?_ | refine al_v (opx_cutH_str (h := 1) e1 rfl (by omega)) ⟨rfl, rfl, trivial⟩ trivial rfl ?_)) | (refine is_ad ?_; refine al_v (opx_cutH_str (h := 1) e1 rfl (by omega)) ⟨rfl, rfl, trivial⟩ trivial rfl ?_) | (refine is_aw ?_; (first | refine aw_seq ?_ | refine aw_region ?_ | refine aw_ret ?_)))
  exact ret_raw trivial rfl ⟨by rw [eqD], rfl⟩
theorem c_HasPrefix_f (c : UInt8) (s : Str) (h : s.head? ≠ some c) : Con Tryd.prog 75 [rStr s, rStr [c]] [] (fun rs all => rs = [rB false] ∧ all = []) := by
  refine con_of_aw (vars := [.tmp 4]) [(0, .r (rStr s)), (1, .r (rStr [c]))] [] 0 Tryd.func75 (by kernel_rfl) rfl Tryd.ntmps75 rfl (by decide) rfl rfl rfl rfl rfl ?_; intro B M w0 ρ0 Z0
  have l1 : ([c] : Str).length = 1 := rfl
  cases s with
  | nil =>
    have l2 : ([] : Str).length = 0 := rfl
    have d0 : decide ((([c] : Str).length : Int) ≤ (([] : Str).length : Int)) = false := decide_eq_false (by omega)
    repeat' (first | (refine is_al ?_; (first | (refine is_gd ?_; refine al_off rfl rfl rfl (by assumption) rfl ?_) | (refine is_move ?_; refine al_v (opx_move (.raw _)) ⟨rfl, trivial⟩ trivial rfl ?_) | (refine is_bin ?_; refine al_v opx_geq ⟨rfl, rfl, trivial⟩ trivial rfl ?_) | (refine is_assign ?_; refine al_v (opx_assign (.raw _)) ⟨rfl, trivial⟩ trivial rfl ?_) | (refine is_pick ?_; refine al_v (opx_pick_f (.raw _) rfl) ⟨rfl, rfl, trivial⟩ trivial rfl ?_) | (refine is_bi ?_; refine al_v opx_len_str ⟨rfl, trivial⟩ trivial rfl ?_) | refine al_nil ?_)) | (refine is_aw ?_; (first | refine aw_seq ?_ | refine aw_region ?_ | refine aw_ret ?_)))
    exact ret_raw trivial rfl ⟨rfl, rfl⟩
  | cons a r =>
    have l2 : (a :: r : Str).length = r.length + 1 := rfl
    have d0 : decide ((([c] : Str).length : Int) ≤ ((a :: r : Str).length : Int)) = true := decide_eq_true (by omega)
    have e1 : ((a :: r : Str).take 1).drop 0 = [a] := rfl
    have d2 : decide ([a] = [c]) = false := decide_eq_false (fun e => h (by rw [List.head?_cons]; simpa using e))
    repeat' (first | (refine is_al ?_; (first | (refine is_gd ?_; refine al_on rfl rfl rfl (by assumption) ?_) | (refine is_move ?_; refine al_v (opx_move (.raw _)) ⟨rfl, trivial⟩ trivial rfl ?_) | (refine is_bin ?_; (first | refine al_v opx_geq ⟨rfl, rfl, trivial⟩ trivial rfl ?_ | refine al_v opx_seql ⟨rfl, rfl, trivial⟩ trivial rfl ?_)) | (refine is_assign ?_; refine al_v (opx_assign (.raw _)) ⟨rfl, trivial⟩ trivial rfl ?_) | (refine is_pick ?_; refine al_v (opx_pick_t (.raw _) (by assumption)) ⟨rfl, rfl, trivial⟩ trivial rfl ?_) | (refine is_bi ?_; refine al_v opx_len_str ⟨rfl, trivial⟩ trivial rfl ?_) | refine al_nil ?_ | refine al_v (opx_cutH_str (h := 1) e1 rfl (by omega)) ⟨rfl, rfl, trivial⟩ trivial rfl ?_)) | (refine is_ad ?_; refine al_v (opx_cutH_str (h := 1) e1 rfl (by omega)) ⟨rfl, rfl, trivial⟩ trivial rfl ?_) | (refine is_aw ?_; (first | refine aw_seq ?_ | refine aw_region ?_ | refine aw_ret ?_)))
    exact ret_raw trivial rfl ⟨by rw [d2], rfl⟩
theorem c_HasSuffix_t (c : UInt8) (x : Str) (hl : x.length ≤ 9000000000000000000) : Con Tryd.prog 76 [rStr (x ++ [c]), rStr [c]] [] (fun rs all => rs = [rB true] ∧ all = []) := by
  refine con_of_aw (vars := [.tmp 4]) [(0, .r (rStr (x ++ [c]))), (1, .r (rStr [c]))] [] 0 Tryd.func76 (by kernel_rfl) rfl Tryd.ntmps76 rfl (by decide) rfl rfl rfl rfl rfl ?_; intro B M w0 ρ0 Z0
  have l1 : ([c] : Str).length = 1 := rfl
  have l2 : (x ++ [c]).length = x.length + 1 := by rw [List.length_append]; rfl
  have d0 : decide ((([c] : Str).length : Int) ≤ ((x ++ [c]).length : Int)) = true := decide_eq_true (by omega)
  have e1 : ((x ++ [c]).take (x ++ [c]).length).drop x.length = [c] := by rw [List.take_length, List.drop_left']; rfl
  repeat' (first | (refine is_al ?_; (first | (refine is_gd ?_; refine al_on rfl rfl rfl (by assumption) ?_) | (refine is_move ?_; refine al_v (opx_move (.raw _)) ⟨rfl, trivial⟩ trivial rfl ?_) | (refine is_bin ?_; (first | refine al_v opx_geq ⟨rfl, rfl, trivial⟩ trivial rfl ?_ | refine al_v (opx_sub (by unfold InR; omega)) ⟨rfl, rfl, trivial⟩ trivial rfl ?_ | refine al_v opx_seql ⟨rfl, rfl, trivial⟩ trivial rfl ?_)) | (refine is_assign ?_; refine al_v (opx_assign (.raw _)) ⟨rfl, trivial⟩ trivial rfl ?_) | (refine is_pick ?_; refine al_v (opx_pick_t (.raw _) (by assumption)) ⟨rfl, rfl, trivial⟩ trivial rfl ?_) | (refine is_bi ?_; refine al_v opx_len_str ⟨rfl, trivial⟩ trivial rfl ?_) | refine al_nil ?_ | refine al_v (opx_cutL_str (l := x.length) e1 (by omega) (by omega)) ⟨rfl, rfl, trivial⟩ trivial rfl ?_)) | (refine is_ad ?_; refine al_v (opx_cutL_str (l := x.length) e1 (by omega) (by omega)) ⟨rfl, rfl, trivial⟩ trivial rfl ?_) | (refine is_aw ?_; (first | refine aw_seq ?_ | refine aw_region ?_ | refine aw_ret ?_)))
  exact ret_raw trivial rfl ⟨by rw [eqD], rfl⟩
theorem c_HasSuffix_f (c : UInt8) (s : Str) (h : s.getLast? ≠ some c) (hl : s.length ≤ 9000000000000000000) : Con Tryd.prog 76 [rStr s, rStr [c]] [] (fun rs all => rs = [rB false] ∧ all = []) := by
  refine con_of_aw (vars := [.tmp 4]) [(0, .r (rStr s)), (1, .r (rStr [c]))] [] 0 Tryd.func76 (by kernel_rfl) rfl Tryd.ntmps76 rfl (by decide) rfl rfl rfl rfl rfl ?_; intro B M w0 ρ0 Z0
  have l1 : ([c] : Str).length = 1 := rfl
  rcases List.eq_nil_or_concat s with rfl | ⟨x, a, rfl⟩
  · have l2 : ([] : Str).length = 0 := rfl
    have d0 : decide ((([c] : Str).length : Int) ≤ (([] : Str).length : Int)) = false := decide_eq_false (by omega)
    repeat' (first | (refine is_al ?_; (first | (refine is_gd ?_; refine al_off rfl rfl rfl (by assumption) rfl ?_) | (refine is_move ?_; refine al_v (opx_move (.raw _)) ⟨rfl, trivial⟩ trivial rfl ?_) | (refine is_bin ?_; refine al_v opx_geq ⟨rfl, rfl, trivial⟩ trivial rfl ?_) | (refine is_assign ?_; refine al_v (opx_assign (.raw _)) ⟨rfl, trivial⟩ trivial rfl ?_) | (refine is_pick ?_; refine al_v (opx_pick_f (.raw _) rfl) ⟨rfl, rfl, trivial⟩ trivial rfl ?_) | (refine is_bi ?_; refine al_v opx_len_str ⟨rfl, trivial⟩ trivial rfl ?_) | refine al_nil ?_)) | (refine is_aw ?_; (first | refine aw_seq ?_ | refine aw_region ?_ | refine aw_ret ?_)))
    exact ret_raw trivial rfl ⟨rfl, rfl⟩
  · rw [List.concat_eq_append] at h hl ⊢
    have l2 : (x ++ [a]).length = x.length + 1 := by rw [List.length_append]; rfl
    have d0 : decide ((([c] : Str).length : Int) ≤ ((x ++ [a]).length : Int)) = true := decide_eq_true (by omega)
    have e1 : ((x ++ [a]).take (x ++ [a]).length).drop x.length = [a] := by rw [List.take_length, List.drop_left']; rfl
    have d2 : decide ([a] = [c]) = false := decide_eq_false (fun e => h (by rw [List.getLast?_append]; simpa using e))
    repeat' (first | (refine is_al ?_; (first | (refine is_gd ?_; refine al_on rfl rfl rfl (by assumption) ?_) | (refine is_move ?_; refine al_v (opx_move (.raw _)) ⟨rfl, trivial⟩ trivial rfl ?_) | (refine is_bin ?_; (first | refine al_v opx_geq ⟨rfl, rfl, trivial⟩ trivial rfl ?_ | refine al_v (opx_sub (by unfold InR; omega)) ⟨rfl, rfl, trivial⟩ trivial rfl ?_ | refine al_v opx_seql ⟨rfl, rfl, trivial⟩ trivial rfl ?_)) | (refine is_assign ?_; refine al_v (opx_assign (.raw _)) ⟨rfl, trivial⟩ trivial rfl ?_) | (refine is_pick ?_; refine al_v (opx_pick_t (.raw _) (by assumption)) ⟨rfl, rfl, trivial⟩ trivial rfl ?_) | (refine is_bi ?_; refine al_v opx_len_str ⟨rfl, trivial⟩ trivial rfl ?_) | refine al_nil ?_ | refine al_v (opx_cutL_str (l := x.length) e1 (by omega) (by omega)) ⟨rfl, rfl, trivial⟩ trivial rfl ?_)) | (refine is_ad ?_; refine al_v (opx_cutL_str (l := x.length) e1 (by omega) (by omega)) ⟨rfl, rfl, trivial⟩ trivial rfl ?_) | (refine is_aw ?_; (first | refine aw_seq ?_ | refine aw_region ?_ | refine aw_ret ?_)))
    exact ret_raw trivial rfl ⟨by rw [d2], rfl⟩
theorem c_CutPrefix_t (c : UInt8) (r : Str) : Con Tryd.prog 50 [rStr (c :: r), rStr [c]] [] (fun rs all => rs = [rStr r, rB true] ∧ all = []) := by
  have h0 : Con Tryd.prog 64 [rStr (c :: r), rStr [c]] [] (fun rs all => rs = [rStr r, rB true] ∧ all = []) := by
    refine con_of_aw (vars := [.tmp 4, .tmp 5]) [(0, .r (rStr (c :: r))), (1, .r (rStr [c]))] [] 0 Tryd.func64 (by kernel_rfl) rfl Tryd.ntmps64 rfl (by decide) rfl rfl rfl rfl rfl ?_
    intro B M w0 ρ0 Z0
    have n1 : (!true) = false := rfl
    have l2 : (c :: r : Str).length = r.length + 1 := rfl
    have e1 : ((c :: r : Str).take (c :: r : Str).length).drop 1 = r := by rw [List.take_length]; rfl
    repeat' (first | (refine is_al ?_; (first | (refine is_move ?_; refine al_v (opx_move (.raw _)) ⟨rfl, trivial⟩ trivial rfl ?_) | (refine is_assign ?_; refine al_v (opx_assign (.raw _)) ⟨rfl, trivial⟩ trivial rfl ?_) | (refine is_bi ?_; refine al_v opx_len_str ⟨rfl, trivial⟩ trivial rfl ?_) | (refine is_call ?_; refine al_callF (by (repeat (first | exact .nil | refine .one rfl rfl ?_ | refine .froz rfl rfl ?_ | refine .rnil rfl ?_ | refine .agg rfl (by (repeat (first | exact .nil | refine .cons (.same rfl) ?_ | refine .cons (.froz rfl) ?_ | refine .cons (.rnil) ?_)); (first | done | fail)) ?_)); (first | done | fail)) rfl (c_HasPrefix_t c r) rfl ?_) | refine al_v opx_not ⟨rfl, trivial⟩ trivial rfl ?_ | refine al_nil ?_ | refine al_v (opx_cutL_str (l := 1) e1 rfl (by omega)) ⟨rfl, rfl, trivial⟩ trivial rfl ?_)) | (refine is_ad ?_; refine al_v (opx_cutL_str (l := 1) e1 rfl (by omega)) ⟨rfl, rfl, trivial⟩ trivial rfl ?_) | (refine is_aw ?_; (first | refine aw_seq ?_ | refine aw_region ?_ | refine aw_skip ?_ | refine aw_ret ?_ | (refine is_cond ?_; refine aw_cond_f rfl rfl ?_))))
    exact ret_raw2 trivial rfl rfl ⟨rfl, rfl⟩
  refine con_of_aw (vars := [.tmp 4, .tmp 5]) [(0, .r (rStr (c :: r))), (1, .r (rStr [c]))] [] 0 Tryd.func50 (by kernel_rfl) rfl Tryd.ntmps50 rfl (by decide) rfl rfl rfl rfl rfl ?_; intro B M w0 ρ0 Z0
  repeat' (first | (refine is_al ?_; (first | (refine is_move ?_; refine al_v (opx_move (.raw _)) ⟨rfl, trivial⟩ trivial rfl ?_) | (refine is_assign ?_; refine al_v (opx_assign (.raw _)) ⟨rfl, trivial⟩ trivial rfl ?_) | (refine is_call ?_; refine al_callF (by (repeat (first | exact .nil | refine .one rfl rfl ?_ | refine .froz rfl rfl ?_ | refine .rnil rfl ?_ | refine .agg rfl (by (repeat (first | exact .nil | refine .cons (.same rfl) ?_ | refine .cons (.froz rfl) ?_ | refine .cons (.rnil) ?_)); (first | done | fail)) ?_)); (first | done | fail)) rfl (h0) rfl ?_) | refine al_v (opx_extract _ rfl) ⟨rfl, trivial⟩ trivial rfl ?_ | refine al_nil ?_)) | (refine is_aw ?_; (first | refine aw_seq ?_ | refine aw_region ?_ | refine aw_ret ?_)))
  exact ret_raw2 trivial rfl rfl ⟨rfl, rfl⟩
theorem c_CutPrefix_f (c : UInt8) (s : Str) (h : s.head? ≠ some c) : Con Tryd.prog 50 [rStr s, rStr [c]] [] (fun rs all => rs = [rStr s, rB false] ∧ all = []) := by
  have h0 : Con Tryd.prog 64 [rStr s, rStr [c]] [] (fun rs all => rs = [rStr s, rB false] ∧ all = []) := by
    refine con_of_aw (vars := [.tmp 4, .tmp 5]) [(0, .r (rStr s)), (1, .r (rStr [c]))] [] 0 Tryd.func64 (by kernel_rfl) rfl Tryd.ntmps64 rfl (by decide) rfl rfl rfl rfl rfl ?_
    intro B M w0 ρ0 Z0
    have n2 : (!false) = true := rfl
    repeat' (first | (refine is_al ?_; (first | (refine is_move ?_; refine al_v (opx_move (.raw _)) ⟨rfl, trivial⟩ trivial rfl ?_) | (refine is_assign ?_; refine al_v (opx_assign (.raw _)) ⟨rfl, trivial⟩ trivial rfl ?_) | (refine is_call ?_; refine al_callF (by (repeat (first | exact .nil | refine .one rfl rfl ?_ | refine .froz rfl rfl ?_ | refine .rnil rfl ?_ | refine .agg rfl (by (repeat (first | exact .nil | refine .cons (.same rfl) ?_ | refine .cons (.froz rfl) ?_ | refine .cons (.rnil) ?_)); (first | done | fail)) ?_)); (first | done | fail)) rfl (c_HasPrefix_f c s h) rfl ?_) | refine al_v opx_not ⟨rfl, trivial⟩ trivial rfl ?_ | refine al_nil ?_)) | (refine is_aw ?_; (first | refine aw_seq ?_ | refine aw_region ?_ | refine aw_ret ?_ | (refine is_cond ?_; refine aw_cond_t rfl rfl ?_))) | refine thn_r ?_)
    exact ret_raw2 trivial rfl rfl ⟨rfl, rfl⟩
  refine con_of_aw (vars := [.tmp 4, .tmp 5]) [(0, .r (rStr s)), (1, .r (rStr [c]))] [] 0 Tryd.func50 (by kernel_rfl) rfl Tryd.ntmps50 rfl (by decide) rfl rfl rfl rfl rfl ?_; intro B M w0 ρ0 Z0
  repeat' (first | (refine is_al ?_; (first | (refine is_move ?_; refine al_v (opx_move (.raw _)) ⟨rfl, trivial⟩ trivial rfl ?_) | (refine is_assign ?_; refine al_v (opx_assign (.raw _)) ⟨rfl, trivial⟩ trivial rfl ?_) | (refine is_call ?_; refine al_callF (by (repeat (first | exact .nil | refine .one rfl rfl ?_ | refine .froz rfl rfl ?_ | refine .rnil rfl ?_ | refine .agg rfl (by (repeat (first | exact .nil | refine .cons (.same rfl) ?_ | refine .cons (.froz rfl) ?_ | refine .cons (.rnil) ?_)); (first | done | fail)) ?_)); (first | done | fail)) rfl (h0) rfl ?_) | refine al_v (opx_extract _ rfl) ⟨rfl, trivial⟩ trivial rfl ?_ | refine al_nil ?_)) | (refine is_aw ?_; (first | refine aw_seq ?_ | refine aw_region ?_ | refine aw_ret ?_)))
  exact ret_raw2 trivial rfl rfl ⟨rfl, rfl⟩
theorem c_CutSuffix_t (c : UInt8) (x : Str) (hl : x.length ≤ 9000000000000000000) : Con Tryd.prog 51 [rStr (x ++ [c]), rStr [c]] [] (fun rs all => rs = [rStr x, rB true] ∧ all = []) := by
  have h0 : Con Tryd.prog 65 [rStr (x ++ [c]), rStr [c]] [] (fun rs all => rs = [rStr x, rB true] ∧ all = []) := by
    refine con_of_aw (vars := [.tmp 4, .tmp 5]) [(0, .r (rStr (x ++ [c]))), (1, .r (rStr [c]))] [] 0 Tryd.func65 (by kernel_rfl) rfl Tryd.ntmps65 rfl (by decide) rfl rfl rfl rfl rfl ?_
    intro B M w0 ρ0 Z0
    have n1 : (!true) = false := rfl
    have l1 : ([c] : Str).length = 1 := rfl
    have l2 : (x ++ [c]).length = x.length + 1 := by rw [List.length_append]; rfl
    have e1 : ((x ++ [c]).take x.length).drop 0 = x := by rw [List.drop_zero, List.take_left']; rfl
    repeat' (first | (refine is_al ?_; (first | (refine is_move ?_; refine al_v (opx_move (.raw _)) ⟨rfl, trivial⟩ trivial rfl ?_) | (refine is_bin ?_; refine al_v (opx_sub (by unfold InR; omega)) ⟨rfl, rfl, trivial⟩ trivial rfl ?_) | (refine is_assign ?_; refine al_v (opx_assign (.raw _)) ⟨rfl, trivial⟩ trivial rfl ?_) | (refine is_bi ?_; refine al_v opx_len_str ⟨rfl, trivial⟩ trivial rfl ?_) | (refine is_call ?_; refine al_callF (by (repeat (first | exact .nil | refine .one rfl rfl ?_ | refine .froz rfl rfl ?_ | refine .rnil rfl ?_ | refine .agg rfl (by (repeat (first | exact .nil | refine .cons (.same rfl) ?_ | refine .cons (.froz rfl) ?_ | refine .cons (.rnil) ?_)); (first | done | fail)) ?_)); (first | done | fail)) rfl (c_HasSuffix_t c x hl) rfl ?_) | refine al_v opx_not ⟨rfl, trivial⟩ trivial rfl ?_ | refine al_nil ?_ | refine al_v (opx_cutH_str (h := x.length) e1 (by omega) (by omega)) ⟨rfl, rfl, trivial⟩ trivial rfl ?_)) | (refine is_ad ?_; refine al_v (opx_cutH_str (h := x.length) e1 (by omega) (by omega)) ⟨rfl, rfl, trivial⟩ trivial rfl ?_) | (refine is_aw ?_; (first | refine aw_seq ?_ | refine aw_region ?_ | refine aw_skip ?_ | refine aw_ret ?_ | (refine is_cond ?_; refine aw_cond_f rfl rfl ?_))))
    exact ret_raw2 trivial rfl rfl ⟨rfl, rfl⟩
  refine con_of_aw (vars := [.tmp 4, .tmp 5]) [(0, .r (rStr (x ++ [c]))), (1, .r (rStr [c]))] [] 0 Tryd.func51 (by kernel_rfl) rfl Tryd.ntmps51 rfl (by decide) rfl rfl rfl rfl rfl ?_; intro B M w0 ρ0 Z0
  repeat' (first | (refine is_al ?_; (first | (refine is_move ?_; refine al_v (opx_move (.raw _)) ⟨rfl, trivial⟩ trivial rfl ?_) | (refine is_assign ?_; refine al_v (opx_assign (.raw _)) ⟨rfl, trivial⟩ trivial rfl ?_) | (refine is_call ?_; refine al_callF (by (repeat (first | exact .nil | refine .one rfl rfl ?_ | refine .froz rfl rfl ?_ | refine .rnil rfl ?_ | refine .agg rfl (by (repeat (first | exact .nil | refine .cons (.same rfl) ?_ | refine .cons (.froz rfl) ?_ | refine .cons (.rnil) ?_)); (first | done | fail)) ?_)); (first | done | fail)) rfl (h0) rfl ?_) | refine al_v (opx_extract _ rfl) ⟨rfl, trivial⟩ trivial rfl ?_ | refine al_nil ?_)) | (refine is_aw ?_; (first | refine aw_seq ?_ | refine aw_region ?_ | refine aw_ret ?_)))
  exact ret_raw2 trivial rfl rfl ⟨rfl, rfl⟩
theorem c_CutSuffix_f (c : UInt8) (s : Str) (h : s.getLast? ≠ some c) (hl : s.length ≤ 9000000000000000000) : Con Tryd.prog 51 [rStr s, rStr [c]] [] (fun rs all => rs = [rStr s, rB false] ∧ all = []) := by
  have h0 : Con Tryd.prog 65 [rStr s, rStr [c]] [] (fun rs all => rs = [rStr s, rB false] ∧ all = []) := by
    refine con_of_aw (vars := [.tmp 4, .tmp 5]) [(0, .r (rStr s)), (1, .r (rStr [c]))] [] 0 Tryd.func65 (by kernel_rfl) rfl Tryd.ntmps65 rfl (by decide) rfl rfl rfl rfl rfl ?_
    intro B M w0 ρ0 Z0
    have n2 : (!false) = true := rfl
    repeat' (first | (refine is_al ?_; (first | (refine is_move ?_; refine al_v (opx_move (.raw _)) ⟨rfl, trivial⟩ trivial rfl ?_) | (refine is_assign ?_; refine al_v (opx_assign (.raw _)) ⟨rfl, trivial⟩ trivial rfl ?_) | (refine is_call ?_; refine al_callF (by (repeat (first | exact .nil | refine .one rfl rfl ?_ | refine .froz rfl rfl ?_ | refine .rnil rfl ?_ | refine .agg rfl (by (repeat (first | exact .nil | refine .cons (.same rfl) ?_ | refine .cons (.froz rfl) ?_ | refine .cons (.rnil) ?_)); (first | done | fail)) ?_)); (first | done | fail)) rfl (c_HasSuffix_f c s h hl) rfl ?_) | refine al_v opx_not ⟨rfl, trivial⟩ trivial rfl ?_ | refine al_nil ?_)) | (refine is_aw ?_; (first | refine aw_seq ?_ | refine aw_region ?_ | refine aw_ret ?_ | (refine is_cond ?_; refine aw_cond_t rfl rfl ?_))) | refine thn_r ?_)
    exact ret_raw2 trivial rfl rfl ⟨rfl, rfl⟩
  refine con_of_aw (vars := [.tmp 4, .tmp 5]) [(0, .r (rStr s)), (1, .r (rStr [c]))] [] 0 Tryd.func51 (by kernel_rfl) rfl Tryd.ntmps51 rfl (by decide) rfl rfl rfl rfl rfl ?_; intro B M w0 ρ0 Z0
  repeat' (first | (refine is_al ?_; (first | (refine is_move ?_; refine al_v (opx_move (.raw _)) ⟨rfl, trivial⟩ trivial rfl ?_) | (refine is_assign ?_; refine al_v (opx_assign (.raw _)) ⟨rfl, trivial⟩ trivial rfl ?_) | (refine is_call ?_; refine al_callF (by (repeat (first | exact .nil | refine .one rfl rfl ?_ | refine .froz rfl rfl ?_ | refine .rnil rfl ?_ | refine .agg rfl (by (repeat (first | exact .nil | refine .cons (.same rfl) ?_ | refine .cons (.froz rfl) ?_ | refine .cons (.rnil) ?_)); (first | done | fail)) ?_)); (first | done | fail)) rfl (h0) rfl ?_) | refine al_v (opx_extract _ rfl) ⟨rfl, trivial⟩ trivial rfl ?_ | refine al_nil ?_)) | (refine is_aw ?_; (first | refine aw_seq ?_ | refine aw_region ?_ | refine aw_ret ?_)))
  exact ret_raw2 trivial rfl rfl ⟨rfl, rfl⟩
end Go.Proofs.YtllgddednlfhfaaDoor

/-
  Valid words and labels: the walks.
-/
namespace Go.Proofs.YtllgddednlfhfaaDoor
open Go.RowKit
set_option linter.unusedVariables false
set_option linter.unusedSimpArgs false
attribute [local irreducible] AL AW OpX Le AD

abbrev BIG (n : Nat) : Prop := n ≤ 9000000000000000000
theorem vw_len {s : Str} (h : ¬ (1 ≤ s.length ∧ s.length ≤ 4)) : decide (vw s) = false := decide_eq_false fun hv => h ⟨hv.1, hv.2.1⟩
theorem vw_bad {s : Str} {k : Nat} {c : UInt8} (h : s[k]? = some c) (hc : ¬ lowB c) : decide (vw s) = false := decide_eq_false fun hv => hc (hv.2.2 c (List.mem_of_getElem? h))
theorem low_take {s : Str} {k : Nat} {c : UInt8} (h : s[k]? = some c) (hc : lowB c) (ha : ∀ c ∈ s.take k, lowB c) : ∀ c ∈ s.take (k + 1), lowB c := by
  rw [List.take_add_one, h]
  intro d hd
  rcases List.mem_append.1 hd with h1 | h1
  · exact ha d h1
  · simp at h1; subst h1; exact hc
theorem c_validWord (s : Str) (hl : BIG s.length) : Con Tryd.prog 53 [rStr s] [] (fun rs all => rs = [rB (decide (vw s))] ∧ all = []) := by
  refine con_of_aw (vars := [.tmp 2]) [(0, .r (rStr s))] [] 0 Tryd.func53 (by kernel_rfl) rfl Tryd.ntmps53 rfl (by decide) rfl rfl rfl rfl rfl ?_; intro B M w0 ρ0 Z0
  by_cases h1 : 1 ≤ s.length
  · have d1 : decide ((s.length : Int) < 1) = false := decide_eq_false (by omega)
    by_cases h4 : s.length ≤ 4
    · have d2 : decide (4 < (s.length : Int)) = false := decide_eq_false (by omega)
      repeat' (first | (refine is_al ?_; (first | (refine is_gd ?_; refine al_on rfl rfl rfl (by assumption) ?_) | (refine is_move ?_; refine al_v (opx_move (.raw _)) ⟨rfl, trivial⟩ trivial rfl ?_) | (refine is_bin ?_; (first | refine al_v opx_lss ⟨rfl, rfl, trivial⟩ trivial rfl ?_ | refine al_v opx_gtr ⟨rfl, rfl, trivial⟩ trivial rfl ?_)) | (refine is_assign ?_; refine al_v (opx_assign (.raw _)) ⟨rfl, trivial⟩ trivial rfl ?_) | (refine is_pick ?_; refine al_v (opx_pick_f (.raw _) (by assumption)) ⟨rfl, rfl, trivial⟩ trivial rfl ?_) | (refine is_bi ?_; refine al_v opx_len_str ⟨rfl, trivial⟩ trivial rfl ?_) | refine al_nil ?_)) | (refine is_aw ?_; (first | refine aw_seq ?_ | refine aw_region ?_ | refine aw_skip ?_ | refine aw_block ?_ | (refine is_cond ?_; refine aw_cond_f rfl (by assumption) ?_))))
      refine aw_loop (γ := Nat) (fun k => [(0, .r (rStr s)), (13, .i (s.length : Int)), (14, .i (k : Int))]) (fun _ => []) (fun _ => 0)
        (fun k => k ≤ s.length ∧ ∀ c ∈ s.take k, lowB c) (fun k => s.length - k) 0 ⟨Nat.zero_le _, fun c hc => by cases hc⟩ (le_mk [] rfl rfl rfl rfl ⟨rfl, rfl, rfl, trivial⟩ trivial) ?_
      rintro k ⟨hk, ha⟩
      rcases Nat.lt_or_ge k s.length with hlt | hge
      · have hc1 : decide ((k : Int) < (s.length : Int)) = true := decide_eq_true (by omega)
        obtain ⟨c, hc⟩ : ∃ c, s[k]? = some c := ⟨_, List.getElem?_eq_getElem hlt⟩
        by_cases g1 : c.toNat < 97
        · have d3 : decide ((c.toNat : Int) < 97) = true := decide_eq_true (by omega)
          have hv := vw_bad hc (fun h => by unfold lowB at h; omega)
          repeat' (first | (refine is_al ?_; (first | (refine is_gd ?_; refine al_off rfl rfl rfl (by assumption) rfl ?_) | (refine is_move ?_; refine al_v (opx_move (.raw _)) ⟨rfl, trivial⟩ trivial rfl ?_) | (refine is_bin ?_; refine al_v opx_lss ⟨rfl, rfl, trivial⟩ trivial rfl ?_) | (refine is_assign ?_; refine al_v (opx_assign (.raw _)) ⟨rfl, trivial⟩ trivial rfl ?_) | (refine is_pick ?_; refine al_v (opx_pick_t (.raw _) (by assumption)) ⟨rfl, rfl, trivial⟩ trivial rfl ?_) | refine al_nil ?_ | refine al_v (opx_sidx (k := k) rfl hc) ⟨rfl, rfl, trivial⟩ trivial rfl ?_)) | (refine is_ad ?_; refine al_v (opx_sidx (k := k) rfl hc) ⟨rfl, rfl, trivial⟩ trivial rfl ?_) | (refine is_aw ?_; (first | refine aw_seq ?_ | refine aw_region ?_ | refine aw_skip ?_ | refine aw_block ?_ | refine aw_ret ?_ | (refine is_cond ?_; (first | refine aw_cond_t rfl rfl ?_ | refine aw_cond_t rfl (by assumption) ?_)))) | refine thn_r ?_ | refine inb_r ?_)
          exact ret_raw trivial rfl ⟨congrArg (fun b => [rB b]) (hv.symm), rfl⟩
        · have d3 : decide ((c.toNat : Int) < 97) = false := decide_eq_false (by omega)
          by_cases g2 : 122 < c.toNat
          · have d4 : decide (122 < (c.toNat : Int)) = true := decide_eq_true (by omega)
            have hv := vw_bad hc (fun h => by unfold lowB at h; omega)
            repeat' (first | (refine is_al ?_; (first | (refine is_gd ?_; refine al_on rfl rfl rfl (by assumption) ?_) | (refine is_move ?_; refine al_v (opx_move (.raw _)) ⟨rfl, trivial⟩ trivial rfl ?_) | (refine is_bin ?_; (first | refine al_v opx_lss ⟨rfl, rfl, trivial⟩ trivial rfl ?_ | refine al_v opx_gtr ⟨rfl, rfl, trivial⟩ trivial rfl ?_)) | (refine is_assign ?_; refine al_v (opx_assign (.raw _)) ⟨rfl, trivial⟩ trivial rfl ?_) | (refine is_pick ?_; refine al_v (opx_pick_f (.raw _) (by assumption)) ⟨rfl, rfl, trivial⟩ trivial rfl ?_) | refine al_nil ?_ | refine al_v (opx_sidx (k := k) rfl hc) ⟨rfl, rfl, trivial⟩ trivial rfl ?_)) | (refine is_ad ?_; refine al_v (opx_sidx (k := k) rfl hc) ⟨rfl, rfl, trivial⟩ trivial rfl ?_) | (refine is_aw ?_; (first | refine aw_seq ?_ | refine aw_region ?_ | refine aw_skip ?_ | refine aw_block ?_ | refine aw_ret ?_ | (refine is_cond ?_; refine aw_cond_t rfl (by assumption) ?_))) | refine thn_r ?_ | refine inb_r ?_)
            exact ret_raw trivial rfl ⟨congrArg (fun b => [rB b]) (hv.symm), rfl⟩
          · have d4 : decide (122 < (c.toNat : Int)) = false := decide_eq_false (by omega)
            repeat' (first | (refine is_al ?_; (first | (refine is_gd ?_; refine al_on rfl rfl rfl (by assumption) ?_) | (refine is_move ?_; refine al_v (opx_move (.raw _)) ⟨rfl, trivial⟩ trivial rfl ?_) | (refine is_bin ?_; (first | refine al_v opx_lss ⟨rfl, rfl, trivial⟩ trivial rfl ?_ | refine al_v opx_gtr ⟨rfl, rfl, trivial⟩ trivial rfl ?_ | refine al_v (opx_add (by unfold InR; omega)) ⟨rfl, rfl, trivial⟩ trivial rfl ?_)) | (refine is_assign ?_; refine al_v (opx_assign (.raw _)) ⟨rfl, trivial⟩ trivial rfl ?_) | (refine is_pick ?_; refine al_v (opx_pick_f (.raw _) (by assumption)) ⟨rfl, rfl, trivial⟩ trivial rfl ?_) | refine al_nil ?_ | refine al_v (opx_sidx (k := k) rfl hc) ⟨rfl, rfl, trivial⟩ trivial rfl ?_)) | (refine is_ad ?_; refine al_v (opx_sidx (k := k) rfl hc) ⟨rfl, rfl, trivial⟩ trivial rfl ?_) | (refine is_aw ?_; (first | refine aw_seq ?_ | refine aw_region ?_ | refine aw_skip ?_ | refine aw_block ?_ | (refine is_cond ?_; (first | refine aw_cond_t rfl (by assumption) ?_ | refine aw_cond_f rfl (by assumption) ?_)))) | refine thn_n ?_)
            exact ⟨k + 1, ⟨hlt, low_take hc ⟨by omega, by omega⟩ ha⟩, by omega, le_mk [] rfl rfl rfl rfl ⟨rfl, rfl, rfl, trivial⟩ trivial⟩
      · have hc1 : decide ((k : Int) < (s.length : Int)) = false := decide_eq_false (by omega)
        rw [List.take_of_length_le hge] at ha
        repeat' (first | (refine is_al ?_; (first | (refine is_bin ?_; refine al_v opx_lss ⟨rfl, rfl, trivial⟩ trivial rfl ?_) | (refine is_assign ?_; refine al_v (opx_assign (.raw _)) ⟨rfl, trivial⟩ trivial rfl ?_) | refine al_nil ?_)) | (refine is_aw ?_; (first | refine aw_seq ?_ | refine aw_region ?_ | refine aw_ret ?_ | refine aw_exit ?_ | (refine is_cond ?_; refine aw_cond_f rfl (by assumption) ?_))))
        exact ret_raw trivial rfl ⟨congrArg (fun b => [rB b]) ((decide_eq_true (⟨h1, h4, ha⟩ : vw s)).symm), rfl⟩
    · have d2 : decide (4 < (s.length : Int)) = true := decide_eq_true (by omega)
      repeat' (first | (refine is_al ?_; (first | (refine is_gd ?_; refine al_on rfl rfl rfl (by assumption) ?_) | (refine is_move ?_; refine al_v (opx_move (.raw _)) ⟨rfl, trivial⟩ trivial rfl ?_) | (refine is_bin ?_; (first | refine al_v opx_lss ⟨rfl, rfl, trivial⟩ trivial rfl ?_ | refine al_v opx_gtr ⟨rfl, rfl, trivial⟩ trivial rfl ?_)) | (refine is_assign ?_; refine al_v (opx_assign (.raw _)) ⟨rfl, trivial⟩ trivial rfl ?_) | (refine is_pick ?_; refine al_v (opx_pick_f (.raw _) (by assumption)) ⟨rfl, rfl, trivial⟩ trivial rfl ?_) | (refine is_bi ?_; refine al_v opx_len_str ⟨rfl, trivial⟩ trivial rfl ?_) | refine al_nil ?_)) | (refine is_aw ?_; (first | refine aw_seq ?_ | refine aw_region ?_ | refine aw_ret ?_ | (refine is_cond ?_; refine aw_cond_t rfl (by assumption) ?_))) | refine thn_r ?_)
      exact ret_raw trivial rfl ⟨congrArg (fun b => [rB b]) ((vw_len (fun h => h4 h.2)).symm), rfl⟩
  · have d1 : decide ((s.length : Int) < 1) = true := decide_eq_true (by omega)
    repeat' (first | (refine is_al ?_; (first | (refine is_gd ?_; refine al_off rfl rfl rfl (by assumption) rfl ?_) | (refine is_move ?_; refine al_v (opx_move (.raw _)) ⟨rfl, trivial⟩ trivial rfl ?_) | (refine is_bin ?_; refine al_v opx_lss ⟨rfl, rfl, trivial⟩ trivial rfl ?_) | (refine is_assign ?_; refine al_v (opx_assign (.raw _)) ⟨rfl, trivial⟩ trivial rfl ?_) | (refine is_pick ?_; refine al_v (opx_pick_t (.raw _) (by assumption)) ⟨rfl, rfl, trivial⟩ trivial rfl ?_) | (refine is_bi ?_; refine al_v opx_len_str ⟨rfl, trivial⟩ trivial rfl ?_) | refine al_nil ?_)) | (refine is_aw ?_; (first | refine aw_seq ?_ | refine aw_region ?_ | refine aw_ret ?_ | (refine is_cond ?_; refine aw_cond_t rfl rfl ?_))) | refine thn_r ?_)
    exact ret_raw trivial rfl ⟨congrArg (fun b => [rB b]) ((vw_len (fun h => h1 h.1)).symm), rfl⟩
theorem c_svalidWord (s : Str) (hl : BIG s.length) : Con Tryd.prog 54 [rStr s] [] (fun rs all => rs = [rB (decide (vw s))] ∧ all = []) := by
  refine con_of_aw (vars := [.tmp 2]) [(0, .r (rStr s))] [] 0 Tryd.func54 (by kernel_rfl) rfl Tryd.ntmps54 rfl (by decide) rfl rfl rfl rfl rfl ?_; intro B M w0 ρ0 Z0
  repeat' (first | (refine is_al ?_; (first | (refine is_assign ?_; refine al_v (opx_assign (.raw _)) ⟨rfl, trivial⟩ trivial rfl ?_) | refine al_nil ?_)) | (refine is_aw ?_; (first | refine aw_seq ?_ | refine aw_region ?_ | refine aw_block ?_)))
  refine aw_loop (γ := Nat) (fun k => [(0, .r (rStr s)), (3, .i (k : Int))]) (fun _ => []) (fun _ => 0)
    (fun k => k ≤ s.length ∧ ∀ c ∈ s.take k, lowB c) (fun k => s.length - k) 0 ⟨Nat.zero_le _, fun c hc => by cases hc⟩ (le_mk [] rfl rfl rfl rfl ⟨rfl, rfl, trivial⟩ trivial) ?_
  rintro k ⟨hk, ha⟩
  rcases Nat.lt_or_ge k s.length with hlt | hge
  · have hc1 : decide ((k : Int) < (s.length : Int)) = true := decide_eq_true (by omega)
    obtain ⟨c, hc⟩ : ∃ c, s[k]? = some c := ⟨_, List.getElem?_eq_getElem hlt⟩
    have hc8 := c.toNat_lt
    by_cases g1 : 97 ≤ (c.toNat : Int) ∧ (c.toNat : Int) ≤ 122
    · have d3 : (!decide (97 ≤ (c.toNat : Int) ∧ (c.toNat : Int) ≤ 122)) = false := by rw [decide_eq_true g1]; rfl
      repeat' (first | (refine is_al ?_; (first | (refine is_move ?_; refine al_v (opx_move (.raw _)) ⟨rfl, trivial⟩ trivial rfl ?_) | (refine is_bin ?_; (first | refine al_v opx_lss ⟨rfl, rfl, trivial⟩ trivial rfl ?_ | refine al_v (opx_add (by unfold InR; omega)) ⟨rfl, rfl, trivial⟩ trivial rfl ?_)) | (refine is_assign ?_; refine al_v (opx_assign (.raw _)) ⟨rfl, trivial⟩ trivial rfl ?_) | (refine is_bi ?_; refine al_v opx_len_str ⟨rfl, trivial⟩ trivial rfl ?_) | (refine is_call ?_; refine al_callv2 (by (repeat (first | exact .nil | refine .one rfl rfl ?_ | refine .froz rfl rfl ?_ | refine .row rfl rfl ?_ | refine .rnil rfl ?_ | refine .agg rfl (by (repeat (first | exact .nil | refine .cons (.same rfl) ?_ | refine .cons (.froz rfl) ?_ | refine .cons (.rnil) ?_ | refine .cons (.row rfl rfl) ?_)); (first | done | fail)) ?_)); (first | done | fail)) rfl (c_inRange _ _ _) rfl ?_) | refine al_v opx_not ⟨rfl, trivial⟩ trivial rfl ?_ | refine al_nil ?_ | refine al_v (opx_sidx (k := k) rfl hc) ⟨rfl, rfl, trivial⟩ trivial rfl ?_ | refine al_v (opx_intOf (by omega)) ⟨rfl, trivial⟩ trivial rfl ?_)) | (refine is_ad ?_; (first | refine al_v (opx_sidx (k := k) rfl hc) ⟨rfl, rfl, trivial⟩ trivial rfl ?_ | refine al_v (opx_intOf (by omega)) ⟨rfl, trivial⟩ trivial rfl ?_)) | (refine is_aw ?_; (first | refine aw_seq ?_ | refine aw_region ?_ | refine aw_skip ?_ | refine aw_block ?_ | (refine is_cond ?_; (first | refine aw_cond_t rfl (by assumption) ?_ | refine aw_cond_f rfl (by assumption) ?_)))) | refine thn_n ?_)
      exact ⟨k + 1, ⟨hlt, low_take hc ⟨by omega, by omega⟩ ha⟩, by omega, le_mk [] rfl rfl rfl rfl ⟨rfl, rfl, trivial⟩ trivial⟩
    · have d3 : (!decide (97 ≤ (c.toNat : Int) ∧ (c.toNat : Int) ≤ 122)) = true := by rw [decide_eq_false g1]; rfl
      have hv := vw_bad hc (fun h => by unfold lowB at h; omega)
      repeat' (first | (refine is_al ?_; (first | (refine is_move ?_; refine al_v (opx_move (.raw _)) ⟨rfl, trivial⟩ trivial rfl ?_) | (refine is_bin ?_; refine al_v opx_lss ⟨rfl, rfl, trivial⟩ trivial rfl ?_) | (refine is_assign ?_; refine al_v (opx_assign (.raw _)) ⟨rfl, trivial⟩ trivial rfl ?_) | (refine is_bi ?_; refine al_v opx_len_str ⟨rfl, trivial⟩ trivial rfl ?_) | (refine is_call ?_; refine al_callv2 (by (repeat (first | exact .nil | refine .one rfl rfl ?_ | refine .froz rfl rfl ?_ | refine .row rfl rfl ?_ | refine .rnil rfl ?_ | refine .agg rfl (by (repeat (first | exact .nil | refine .cons (.same rfl) ?_ | refine .cons (.froz rfl) ?_ | refine .cons (.rnil) ?_ | refine .cons (.row rfl rfl) ?_)); (first | done | fail)) ?_)); (first | done | fail)) rfl (c_inRange _ _ _) rfl ?_) | refine al_v opx_not ⟨rfl, trivial⟩ trivial rfl ?_ | refine al_nil ?_ | refine al_v (opx_sidx (k := k) rfl hc) ⟨rfl, rfl, trivial⟩ trivial rfl ?_ | refine al_v (opx_intOf (by omega)) ⟨rfl, trivial⟩ trivial rfl ?_)) | (refine is_ad ?_; (first | refine al_v (opx_sidx (k := k) rfl hc) ⟨rfl, rfl, trivial⟩ trivial rfl ?_ | refine al_v (opx_intOf (by omega)) ⟨rfl, trivial⟩ trivial rfl ?_)) | (refine is_aw ?_; (first | refine aw_seq ?_ | refine aw_region ?_ | refine aw_skip ?_ | refine aw_block ?_ | refine aw_ret ?_ | (refine is_cond ?_; refine aw_cond_t rfl (by assumption) ?_))) | refine thn_r ?_ | refine inb_r ?_)
      exact ret_raw trivial rfl ⟨congrArg (fun b => [rB b]) (hv.symm), rfl⟩
  · have hc1 : decide ((k : Int) < (s.length : Int)) = false := decide_eq_false (by omega)
    rw [List.take_of_length_le hge] at ha
    repeat' (first | (refine is_al ?_; (first | (refine is_move ?_; refine al_v (opx_move (.raw _)) ⟨rfl, trivial⟩ trivial rfl ?_) | (refine is_bin ?_; refine al_v opx_lss ⟨rfl, rfl, trivial⟩ trivial rfl ?_) | (refine is_assign ?_; refine al_v (opx_assign (.raw _)) ⟨rfl, trivial⟩ trivial rfl ?_) | (refine is_bi ?_; refine al_v opx_len_str ⟨rfl, trivial⟩ trivial rfl ?_) | (refine is_call ?_; refine al_callv2 (by (repeat (first | exact .nil | refine .one rfl rfl ?_ | refine .froz rfl rfl ?_ | refine .row rfl rfl ?_ | refine .rnil rfl ?_ | refine .agg rfl (by (repeat (first | exact .nil | refine .cons (.same rfl) ?_ | refine .cons (.froz rfl) ?_ | refine .cons (.rnil) ?_ | refine .cons (.row rfl rfl) ?_)); (first | done | fail)) ?_)); (first | done | fail)) rfl (c_inRange _ _ _) rfl ?_) | refine al_nil ?_)) | (refine is_aw ?_; (first | refine aw_seq ?_ | refine aw_region ?_ | refine aw_ret ?_ | refine aw_exit ?_ | (refine is_cond ?_; refine aw_cond_f rfl (by assumption) ?_))))
    exact ret_raw trivial rfl ⟨congrArg (fun b => [rB b]) (by rw [Bool.eq_iff_iff, decide_eq_true_iff, decide_eq_true_iff]; exact ⟨fun h => ⟨by omega, by omega, ha⟩, fun h => ⟨by have := h.1; omega, by have := h.2.1; omega⟩⟩), rfl⟩
/-! ### labels -/
theorem vl_bad {l : List Lb} {k : Nat} (h : ¬ lbOk l k) : vlB l = false := vlB_f fun hv => h (hv.2 k)
theorem c_ValidLabels (l : List Lb) (hL : ∀ x ∈ l, BIG x.1.length ∧ BIG x.2.length) (hl : BIG l.length) : Con Tryd.prog 25 [slL l] [] (fun rs all => rs = [rB (vlB l)] ∧ all = []) := by
  have hlr := lbRs_len (xs := l)
  refine con_of_aw (vars := [.tmp 2]) [(0, .r (slL l))] [] 0 Tryd.func25 (by kernel_rfl) rfl Tryd.ntmps25 rfl (by decide) rfl rfl rfl rfl rfl ?_; intro B M w0 ρ0 Z0
  by_cases h4 : l.length ≤ 4
  · have d1 : decide (4 < ((lbRs l).length : Int)) = false := decide_eq_false (by omega)
    repeat' (first | (refine is_al ?_; (first | (refine is_move ?_; (first | refine al_v (opx_move (.raw _)) ⟨rfl, trivial⟩ trivial rfl ?_ | refine al_v (opx_move (.sl _ _)) ⟨rfl, trivial⟩ trivial rfl ?_)) | (refine is_bin ?_; refine al_v opx_gtr ⟨rfl, rfl, trivial⟩ trivial rfl ?_) | (refine is_assign ?_; refine al_v (opx_assign (.raw _)) ⟨rfl, trivial⟩ trivial rfl ?_) | (refine is_bi ?_; refine al_v opx_len_sl ⟨rfl, trivial⟩ trivial rfl ?_) | refine al_nil ?_)) | (refine is_aw ?_; (first | refine aw_seq ?_ | refine aw_region ?_ | refine aw_skip ?_ | refine aw_block ?_ | (refine is_cond ?_; refine aw_cond_f rfl (by assumption) ?_))))
    refine aw_loop (γ := Nat) (fun k => [(0, .r (slL l)), (8, .sl 2 (lbRs l)), (9, .i ((lbRs l).length : Int)), (10, .i (k : Int))]) (fun _ => []) (fun _ => 0)
      (fun k => k ≤ l.length ∧ ∀ j, j < k → lbOk l j) (fun k => l.length - k) 0 ⟨Nat.zero_le _, fun j hj => by omega⟩ (le_mk [] rfl rfl rfl rfl ⟨rfl, rfl, rfl, rfl, trivial⟩ trivial) ?_
    rintro k ⟨hk, ha⟩
    have n1 : (!true) = false := rfl
    have n2 : (!false) = true := rfl
    rcases Nat.lt_or_ge k l.length with hlt | hge
    · have hc1 : decide ((k : Int) < ((lbRs l).length : Int)) = true := decide_eq_true (by omega)
      obtain ⟨x, hx⟩ : ∃ x, l[k]? = some x := ⟨_, List.getElem?_eq_getElem hlt⟩
      have hxr := lbRs_at hx
      obtain ⟨b1, b2⟩ := hL x (List.mem_of_getElem? hx)
      by_cases a1 : vw x.1
      · have e1 : (!decide (vw x.1)) = false := by rw [decide_eq_true a1]; rfl
        by_cases a2 : vw x.2
        · have e2 : (!decide (vw x.2)) = false := by rw [decide_eq_true a2]; rfl
          by_cases k0 : 0 < k
          · have d3 : decide (0 < (k : Int)) = true := decide_eq_true (by omega)
            obtain ⟨y, hy⟩ : ∃ y, l[k - 1]? = some y := ⟨_, List.getElem?_eq_getElem (by omega)⟩
            have hyr := lbRs_at hy
            cases hs : sle x.1 y.1
            · have hok : lbOk l k := fun z hz => by rw [hx] at hz; cases hz; exact ⟨a1, a2, fun w _ hw => by rw [hy] at hw; cases hw; exact hs⟩
              repeat' (first | (refine is_al ?_; (first | (refine is_gd ?_; refine al_on rfl rfl rfl (by assumption) ?_) | (refine is_move ?_; refine al_v (opx_move (.raw _)) ⟨rfl, trivial⟩ trivial rfl ?_) | (refine is_bin ?_; (first | refine al_v opx_lss ⟨rfl, rfl, trivial⟩ trivial rfl ?_ | refine al_v (opx_add (by unfold InR; omega)) ⟨rfl, rfl, trivial⟩ trivial rfl ?_)) | (refine is_load ?_; (first | refine al_v opx_ld2_imm ⟨rfl, trivial⟩ trivial rfl ?_ | refine al_v (opx_ld_box rfl) ⟨rfl, trivial⟩ ⟨rfl, trivial⟩ rfl ?_)) | (refine is_fa ?_; refine al_v opx_fa_ref ⟨rfl, trivial⟩ trivial rfl ?_) | (refine is_assign ?_; refine al_v (opx_assign (.raw _)) ⟨rfl, trivial⟩ trivial rfl ?_) | (refine is_pick ?_; refine al_v (opx_pick_f (.raw _) (by assumption)) ⟨rfl, rfl, trivial⟩ trivial rfl ?_) | (refine is_ia ?_; refine al_v (opx_ia_sl2 hxr (by omega)) ⟨rfl, rfl, trivial⟩ trivial rfl ?_) | (refine is_call ?_; (first | refine al_callv2 (by (repeat (first | exact .nil | refine .one rfl rfl ?_ | refine .froz rfl rfl ?_ | refine .row rfl rfl ?_ | refine .rnil rfl ?_ | refine .agg rfl (by (repeat (first | exact .nil | refine .cons (.same rfl) ?_ | refine .cons (.froz rfl) ?_ | refine .cons (.rnil) ?_ | refine .cons (.row rfl rfl) ?_)); (first | done | fail)) ?_)); (first | done | fail)) rfl (c_validWord _ b1) rfl ?_ | refine al_callv2 (by (repeat (first | exact .nil | refine .one rfl rfl ?_ | refine .froz rfl rfl ?_ | refine .row rfl rfl ?_ | refine .rnil rfl ?_ | refine .agg rfl (by (repeat (first | exact .nil | refine .cons (.same rfl) ?_ | refine .cons (.froz rfl) ?_ | refine .cons (.rnil) ?_ | refine .cons (.row rfl rfl) ?_)); (first | done | fail)) ?_)); (first | done | fail)) rfl (c_validWord _ b2) rfl ?_)) | (refine is_st ?_; refine al_s (opx_sts_box (by rfl) (by rfl)) ⟨rfl, rfl, trivial⟩ ⟨rfl, trivial⟩ ?_) | refine al_v opx_not ⟨rfl, trivial⟩ trivial rfl ?_ | refine al_n opx_alloc trivial trivial rfl ?_ | refine al_nil ?_)) | (refine is_ad ?_; (first | (refine isd_gd ?_; (first | (refine isd_move ?_; (first | refine ad_on rfl rfl (by assumption) (opx_move (.raw _)) ⟨rfl, trivial⟩ trivial rfl ?_ | refine ad_on rfl rfl (by assumption) (opx_move (.sl _ _)) ⟨rfl, trivial⟩ trivial rfl ?_)) | (refine isd_bin ?_; (first | refine ad_on rfl rfl (by assumption) (opx_sub (by unfold InR; omega)) ⟨rfl, rfl, trivial⟩ trivial rfl ?_ | refine ad_on rfl rfl (by assumption) opx_sleq ⟨rfl, rfl, trivial⟩ trivial rfl ?_)) | (refine isd_load ?_; (first | refine ad_on rfl rfl (by assumption) opx_ld_imm ⟨rfl, trivial⟩ trivial rfl ?_ | refine ad_on rfl rfl (by assumption) (opx_ld_box rfl) ⟨rfl, trivial⟩ ⟨rfl, trivial⟩ rfl ?_)) | (refine isd_fa ?_; (first | refine ad_on rfl rfl (by assumption) opx_fa_ref ⟨rfl, trivial⟩ trivial rfl ?_ | refine ad_on rfl rfl (by assumption) opx_fa_imm0 ⟨rfl, trivial⟩ trivial rfl ?_)) | (refine isd_ia ?_; refine ad_on rfl rfl (by assumption) (opx_ia_sl2 hyr (by omega)) ⟨rfl, rfl, trivial⟩ trivial rfl ?_))) | (refine isd_move ?_; refine ad_v (opx_move (.raw _)) ⟨rfl, trivial⟩ trivial rfl ?_) | (refine isd_bin ?_; refine ad_v opx_gtr ⟨rfl, rfl, trivial⟩ trivial rfl ?_) | (refine isd_pick ?_; refine ad_v (opx_pick_t (.raw _) (by assumption)) ⟨rfl, rfl, trivial⟩ trivial rfl ?_) | refine ad_nil (by kernel_rfl) ?_)) | (refine is_aw ?_; (first | refine aw_seq ?_ | refine aw_region ?_ | refine aw_skip ?_ | refine aw_block ?_ | (refine is_cond ?_; (first | refine aw_cond_t rfl (by assumption) ?_ | refine aw_cond_f rfl (by assumption) ?_)) | refine aw_draw mixed ?_)) | refine thn_n ?_)
              exact ⟨k + 1, ⟨hlt, fun j hj => by rcases Nat.lt_or_ge j k with h | h; exact ha j h; rw [show j = k by omega]; exact hok⟩, by omega, le_mk [] rfl rfl rfl rfl ⟨rfl, rfl, rfl, rfl, trivial⟩ trivial⟩
            · have hv : vlB l = false := vl_bad (k := k) fun h => by have := (h x hx).2.2 y k0 hy; rw [hs] at this; cases this
              repeat' (first | (refine is_al ?_; (first | (refine is_gd ?_; refine al_on rfl rfl rfl (by assumption) ?_) | (refine is_move ?_; refine al_v (opx_move (.raw _)) ⟨rfl, trivial⟩ trivial rfl ?_) | (refine is_bin ?_; refine al_v opx_lss ⟨rfl, rfl, trivial⟩ trivial rfl ?_) | (refine is_load ?_; (first | refine al_v opx_ld2_imm ⟨rfl, trivial⟩ trivial rfl ?_ | refine al_v (opx_ld_box rfl) ⟨rfl, trivial⟩ ⟨rfl, trivial⟩ rfl ?_)) | (refine is_fa ?_; refine al_v opx_fa_ref ⟨rfl, trivial⟩ trivial rfl ?_) | (refine is_assign ?_; refine al_v (opx_assign (.raw _)) ⟨rfl, trivial⟩ trivial rfl ?_) | (refine is_pick ?_; refine al_v (opx_pick_f (.raw _) (by assumption)) ⟨rfl, rfl, trivial⟩ trivial rfl ?_) | (refine is_ia ?_; refine al_v (opx_ia_sl2 hxr (by omega)) ⟨rfl, rfl, trivial⟩ trivial rfl ?_) | (refine is_call ?_; (first | refine al_callv2 (by (repeat (first | exact .nil | refine .one rfl rfl ?_ | refine .froz rfl rfl ?_ | refine .row rfl rfl ?_ | refine .rnil rfl ?_ | refine .agg rfl (by (repeat (first | exact .nil | refine .cons (.same rfl) ?_ | refine .cons (.froz rfl) ?_ | refine .cons (.rnil) ?_ | refine .cons (.row rfl rfl) ?_)); (first | done | fail)) ?_)); (first | done | fail)) rfl (c_validWord _ b1) rfl ?_ | refine al_callv2 (by (repeat (first | exact .nil | refine .one rfl rfl ?_ | refine .froz rfl rfl ?_ | refine .row rfl rfl ?_ | refine .rnil rfl ?_ | refine .agg rfl (by (repeat (first | exact .nil | refine .cons (.same rfl) ?_ | refine .cons (.froz rfl) ?_ | refine .cons (.rnil) ?_ | refine .cons (.row rfl rfl) ?_)); (first | done | fail)) ?_)); (first | done | fail)) rfl (c_validWord _ b2) rfl ?_)) | (refine is_st ?_; refine al_s (opx_sts_box (by rfl) (by rfl)) ⟨rfl, rfl, trivial⟩ ⟨rfl, trivial⟩ ?_) | refine al_v opx_not ⟨rfl, trivial⟩ trivial rfl ?_ | refine al_n opx_alloc trivial trivial rfl ?_ | refine al_nil ?_)) | (refine is_ad ?_; (first | (refine isd_gd ?_; (first | (refine isd_move ?_; (first | refine ad_on rfl rfl (by assumption) (opx_move (.raw _)) ⟨rfl, trivial⟩ trivial rfl ?_ | refine ad_on rfl rfl (by assumption) (opx_move (.sl _ _)) ⟨rfl, trivial⟩ trivial rfl ?_)) | (refine isd_bin ?_; (first | refine ad_on rfl rfl (by assumption) (opx_sub (by unfold InR; omega)) ⟨rfl, rfl, trivial⟩ trivial rfl ?_ | refine ad_on rfl rfl (by assumption) opx_sleq ⟨rfl, rfl, trivial⟩ trivial rfl ?_)) | (refine isd_load ?_; (first | refine ad_on rfl rfl (by assumption) opx_ld_imm ⟨rfl, trivial⟩ trivial rfl ?_ | refine ad_on rfl rfl (by assumption) (opx_ld_box rfl) ⟨rfl, trivial⟩ ⟨rfl, trivial⟩ rfl ?_)) | (refine isd_fa ?_; (first | refine ad_on rfl rfl (by assumption) opx_fa_ref ⟨rfl, trivial⟩ trivial rfl ?_ | refine ad_on rfl rfl (by assumption) opx_fa_imm0 ⟨rfl, trivial⟩ trivial rfl ?_)) | (refine isd_ia ?_; refine ad_on rfl rfl (by assumption) (opx_ia_sl2 hyr (by omega)) ⟨rfl, rfl, trivial⟩ trivial rfl ?_))) | (refine isd_move ?_; refine ad_v (opx_move (.raw _)) ⟨rfl, trivial⟩ trivial rfl ?_) | (refine isd_bin ?_; refine ad_v opx_gtr ⟨rfl, rfl, trivial⟩ trivial rfl ?_) | (refine isd_pick ?_; refine ad_v (opx_pick_t (.raw _) (by assumption)) ⟨rfl, rfl, trivial⟩ trivial rfl ?_) | refine ad_nil (by kernel_rfl) ?_)) | (refine is_aw ?_; (first | refine aw_seq ?_ | refine aw_region ?_ | refine aw_skip ?_ | refine aw_block ?_ | refine aw_ret ?_ | (refine is_cond ?_; (first | refine aw_cond_t rfl (by assumption) ?_ | refine aw_cond_f rfl (by assumption) ?_)) | refine aw_draw mixed ?_)) | refine thn_r ?_ | refine inb_r ?_)
              exact ret_raw trivial rfl ⟨congrArg (fun b => [rB b]) (hv.symm), rfl⟩
          · have d3 : decide (0 < (k : Int)) = false := decide_eq_false (by omega)
            have hok : lbOk l k := fun z hz => by rw [hx] at hz; cases hz; exact ⟨a1, a2, fun w h0 _ => absurd h0 k0⟩
            repeat' (first | (refine is_al ?_; (first | (refine is_gd ?_; refine al_on rfl rfl rfl (by assumption) ?_) | (refine is_move ?_; refine al_v (opx_move (.raw _)) ⟨rfl, trivial⟩ trivial rfl ?_) | (refine is_bin ?_; (first | refine al_v opx_lss ⟨rfl, rfl, trivial⟩ trivial rfl ?_ | refine al_v (opx_add (by unfold InR; omega)) ⟨rfl, rfl, trivial⟩ trivial rfl ?_)) | (refine is_load ?_; (first | refine al_v opx_ld2_imm ⟨rfl, trivial⟩ trivial rfl ?_ | refine al_v (opx_ld_box rfl) ⟨rfl, trivial⟩ ⟨rfl, trivial⟩ rfl ?_)) | (refine is_fa ?_; refine al_v opx_fa_ref ⟨rfl, trivial⟩ trivial rfl ?_) | (refine is_assign ?_; refine al_v (opx_assign (.raw _)) ⟨rfl, trivial⟩ trivial rfl ?_) | (refine is_pick ?_; refine al_v (opx_pick_f (.raw _) (by assumption)) ⟨rfl, rfl, trivial⟩ trivial rfl ?_) | (refine is_ia ?_; refine al_v (opx_ia_sl2 hxr (by omega)) ⟨rfl, rfl, trivial⟩ trivial rfl ?_) | (refine is_call ?_; (first | refine al_callv2 (by (repeat (first | exact .nil | refine .one rfl rfl ?_ | refine .froz rfl rfl ?_ | refine .row rfl rfl ?_ | refine .rnil rfl ?_ | refine .agg rfl (by (repeat (first | exact .nil | refine .cons (.same rfl) ?_ | refine .cons (.froz rfl) ?_ | refine .cons (.rnil) ?_ | refine .cons (.row rfl rfl) ?_)); (first | done | fail)) ?_)); (first | done | fail)) rfl (c_validWord _ b1) rfl ?_ | refine al_callv2 (by (repeat (first | exact .nil | refine .one rfl rfl ?_ | refine .froz rfl rfl ?_ | refine .row rfl rfl ?_ | refine .rnil rfl ?_ | refine .agg rfl (by (repeat (first | exact .nil | refine .cons (.same rfl) ?_ | refine .cons (.froz rfl) ?_ | refine .cons (.rnil) ?_ | refine .cons (.row rfl rfl) ?_)); (first | done | fail)) ?_)); (first | done | fail)) rfl (c_validWord _ b2) rfl ?_)) | (refine is_st ?_; refine al_s (opx_sts_box (by rfl) (by rfl)) ⟨rfl, rfl, trivial⟩ ⟨rfl, trivial⟩ ?_) | refine al_v opx_not ⟨rfl, trivial⟩ trivial rfl ?_ | refine al_n opx_alloc trivial trivial rfl ?_ | refine al_nil ?_)) | (refine is_ad ?_; (first | (refine isd_gd ?_; refine ad_off rfl rfl (by assumption) rfl ?_) | (refine isd_move ?_; refine ad_v (opx_move (.raw _)) ⟨rfl, trivial⟩ trivial rfl ?_) | (refine isd_bin ?_; refine ad_v opx_gtr ⟨rfl, rfl, trivial⟩ trivial rfl ?_) | (refine isd_pick ?_; refine ad_v (opx_pick_f (.raw _) (by assumption)) ⟨rfl, rfl, trivial⟩ trivial rfl ?_) | refine ad_nil (by kernel_rfl) ?_)) | (refine is_aw ?_; (first | refine aw_seq ?_ | refine aw_region ?_ | refine aw_skip ?_ | refine aw_block ?_ | (refine is_cond ?_; (first | refine aw_cond_f rfl rfl ?_ | refine aw_cond_t rfl (by assumption) ?_ | refine aw_cond_f rfl (by assumption) ?_)) | refine aw_draw mixed ?_)) | refine thn_n ?_)
            exact ⟨k + 1, ⟨hlt, fun j hj => by rcases Nat.lt_or_ge j k with h | h; exact ha j h; rw [show j = k by omega]; exact hok⟩, by omega, le_mk [] rfl rfl rfl rfl ⟨rfl, rfl, rfl, rfl, trivial⟩ trivial⟩
        · have e2 : (!decide (vw x.2)) = true := by rw [decide_eq_false a2]; rfl
          have hv : vlB l = false := vl_bad (k := k) fun h => a2 (h x hx).2.1
          repeat' (first | (refine is_al ?_; (first | (refine is_gd ?_; refine al_on rfl rfl rfl (by assumption) ?_) | (refine is_move ?_; refine al_v (opx_move (.raw _)) ⟨rfl, trivial⟩ trivial rfl ?_) | (refine is_bin ?_; refine al_v opx_lss ⟨rfl, rfl, trivial⟩ trivial rfl ?_) | (refine is_load ?_; (first | refine al_v opx_ld2_imm ⟨rfl, trivial⟩ trivial rfl ?_ | refine al_v (opx_ld_box rfl) ⟨rfl, trivial⟩ ⟨rfl, trivial⟩ rfl ?_)) | (refine is_fa ?_; refine al_v opx_fa_ref ⟨rfl, trivial⟩ trivial rfl ?_) | (refine is_assign ?_; refine al_v (opx_assign (.raw _)) ⟨rfl, trivial⟩ trivial rfl ?_) | (refine is_pick ?_; refine al_v (opx_pick_f (.raw _) (by assumption)) ⟨rfl, rfl, trivial⟩ trivial rfl ?_) | (refine is_ia ?_; refine al_v (opx_ia_sl2 hxr (by omega)) ⟨rfl, rfl, trivial⟩ trivial rfl ?_) | (refine is_call ?_; (first | refine al_callv2 (by (repeat (first | exact .nil | refine .one rfl rfl ?_ | refine .froz rfl rfl ?_ | refine .row rfl rfl ?_ | refine .rnil rfl ?_ | refine .agg rfl (by (repeat (first | exact .nil | refine .cons (.same rfl) ?_ | refine .cons (.froz rfl) ?_ | refine .cons (.rnil) ?_ | refine .cons (.row rfl rfl) ?_)); (first | done | fail)) ?_)); (first | done | fail)) rfl (c_validWord _ b1) rfl ?_ | refine al_callv2 (by (repeat (first | exact .nil | refine .one rfl rfl ?_ | refine .froz rfl rfl ?_ | refine .row rfl rfl ?_ | refine .rnil rfl ?_ | refine .agg rfl (by (repeat (first | exact .nil | refine .cons (.same rfl) ?_ | refine .cons (.froz rfl) ?_ | refine .cons (.rnil) ?_ | refine .cons (.row rfl rfl) ?_)); (first | done | fail)) ?_)); (first | done | fail)) rfl (c_validWord _ b2) rfl ?_)) | (refine is_st ?_; refine al_s (opx_sts_box (by rfl) (by rfl)) ⟨rfl, rfl, trivial⟩ ⟨rfl, trivial⟩ ?_) | refine al_v opx_not ⟨rfl, trivial⟩ trivial rfl ?_ | refine al_n opx_alloc trivial trivial rfl ?_ | refine al_nil ?_)) | (refine is_aw ?_; (first | refine aw_seq ?_ | refine aw_region ?_ | refine aw_skip ?_ | refine aw_block ?_ | refine aw_ret ?_ | (refine is_cond ?_; refine aw_cond_t rfl (by assumption) ?_))) | refine thn_r ?_ | refine inb_r ?_)
          exact ret_raw trivial rfl ⟨congrArg (fun b => [rB b]) (hv.symm), rfl⟩
      · have e1 : (!decide (vw x.1)) = true := by rw [decide_eq_false a1]; rfl
        have hv : vlB l = false := vl_bad (k := k) fun h => a1 (h x hx).1
        repeat' (first | (refine is_al ?_; (first | (refine is_gd ?_; refine al_off rfl rfl rfl (by assumption) rfl ?_) | (refine is_move ?_; refine al_v (opx_move (.raw _)) ⟨rfl, trivial⟩ trivial rfl ?_) | (refine is_bin ?_; refine al_v opx_lss ⟨rfl, rfl, trivial⟩ trivial rfl ?_) | (refine is_load ?_; (first | refine al_v opx_ld2_imm ⟨rfl, trivial⟩ trivial rfl ?_ | refine al_v (opx_ld_box rfl) ⟨rfl, trivial⟩ ⟨rfl, trivial⟩ rfl ?_)) | (refine is_fa ?_; refine al_v opx_fa_ref ⟨rfl, trivial⟩ trivial rfl ?_) | (refine is_assign ?_; refine al_v (opx_assign (.raw _)) ⟨rfl, trivial⟩ trivial rfl ?_) | (refine is_pick ?_; refine al_v (opx_pick_t (.raw _) (by assumption)) ⟨rfl, rfl, trivial⟩ trivial rfl ?_) | (refine is_ia ?_; refine al_v (opx_ia_sl2 hxr (by omega)) ⟨rfl, rfl, trivial⟩ trivial rfl ?_) | (refine is_call ?_; refine al_callv2 (by (repeat (first | exact .nil | refine .one rfl rfl ?_ | refine .froz rfl rfl ?_ | refine .row rfl rfl ?_ | refine .rnil rfl ?_ | refine .agg rfl (by (repeat (first | exact .nil | refine .cons (.same rfl) ?_ | refine .cons (.froz rfl) ?_ | refine .cons (.rnil) ?_ | refine .cons (.row rfl rfl) ?_)); (first | done | fail)) ?_)); (first | done | fail)) rfl (c_validWord _ b1) rfl ?_) | (refine is_st ?_; refine al_s (opx_sts_box (by rfl) (by rfl)) ⟨rfl, rfl, trivial⟩ ⟨rfl, trivial⟩ ?_) | refine al_v opx_not ⟨rfl, trivial⟩ trivial rfl ?_ | refine al_n opx_alloc trivial trivial rfl ?_ | refine al_nil ?_)) | (refine is_aw ?_; (first | refine aw_seq ?_ | refine aw_region ?_ | refine aw_skip ?_ | refine aw_block ?_ | refine aw_ret ?_ | (refine is_cond ?_; (first | refine aw_cond_t rfl rfl ?_ | refine aw_cond_t rfl (by assumption) ?_)))) | refine thn_r ?_ | refine inb_r ?_)
        exact ret_raw trivial rfl ⟨congrArg (fun b => [rB b]) (hv.symm), rfl⟩
    · have hc1 : decide ((k : Int) < ((lbRs l).length : Int)) = false := decide_eq_false (by omega)
      have hv : vlB l = true := vlB_t ⟨h4, fun j => by
        rcases Nat.lt_or_ge j k with h | h
        · exact ha j h
        · intro x hx; rw [List.getElem?_eq_none (by omega)] at hx; cases hx⟩
      repeat' (first | (refine is_al ?_; (first | (refine is_bin ?_; refine al_v opx_lss ⟨rfl, rfl, trivial⟩ trivial rfl ?_) | (refine is_assign ?_; refine al_v (opx_assign (.raw _)) ⟨rfl, trivial⟩ trivial rfl ?_) | refine al_nil ?_)) | (refine is_aw ?_; (first | refine aw_seq ?_ | refine aw_region ?_ | refine aw_ret ?_ | refine aw_exit ?_ | (refine is_cond ?_; refine aw_cond_f rfl (by assumption) ?_))))
      exact ret_raw trivial rfl ⟨congrArg (fun b => [rB b]) (hv.symm), rfl⟩
  · have d1 : decide (4 < ((lbRs l).length : Int)) = true := decide_eq_true (by omega)
    repeat' (first | (refine is_al ?_; (first | (refine is_move ?_; refine al_v (opx_move (.sl _ _)) ⟨rfl, trivial⟩ trivial rfl ?_) | (refine is_bin ?_; refine al_v opx_gtr ⟨rfl, rfl, trivial⟩ trivial rfl ?_) | (refine is_assign ?_; refine al_v (opx_assign (.raw _)) ⟨rfl, trivial⟩ trivial rfl ?_) | (refine is_bi ?_; refine al_v opx_len_sl ⟨rfl, trivial⟩ trivial rfl ?_) | refine al_nil ?_)) | (refine is_aw ?_; (first | refine aw_seq ?_ | refine aw_region ?_ | refine aw_ret ?_ | (refine is_cond ?_; refine aw_cond_t rfl (by assumption) ?_))) | refine thn_r ?_)
    exact ret_raw trivial rfl ⟨congrArg (fun b => [rB b]) ((vlB_f (fun h => h4 h.1)).symm), rfl⟩
theorem c_sValidLabels (l : List Lb) (hL : ∀ x ∈ l, BIG x.1.length ∧ BIG x.2.length) (hl : BIG l.length) : Con Tryd.prog 27 [slL l] [] (fun rs all => rs = [rB (vlB l)] ∧ all = []) := by
  have hlr := lbRs_len (xs := l)
  refine con_of_aw (vars := [.tmp 2]) [(0, .r (slL l))] [] 0 Tryd.func27 (by kernel_rfl) rfl Tryd.ntmps27 rfl (by decide) rfl rfl rfl rfl rfl ?_; intro B M w0 ρ0 Z0
  repeat' (first | (refine is_al ?_; (first | (refine is_assign ?_; refine al_v (opx_assign (.raw _)) ⟨rfl, trivial⟩ trivial rfl ?_) | refine al_nil ?_)) | (refine is_aw ?_; (first | refine aw_seq ?_ | refine aw_region ?_ | refine aw_block ?_)))
  refine aw_loop (γ := Nat) (fun k => [(0, .r (slL l)), (3, .i (k : Int))]) (fun _ => []) (fun _ => 0)
    (fun k => k ≤ l.length ∧ ∀ j, j < k → lbOk l j) (fun k => l.length - k) 0 ⟨Nat.zero_le _, fun j hj => by omega⟩ (le_mk [] rfl rfl rfl rfl ⟨rfl, rfl, trivial⟩ trivial) ?_
  rintro k ⟨hk, ha⟩
  have n1 : (!true) = false := rfl
  have n2 : (!false) = true := rfl
  rcases Nat.lt_or_ge k l.length with hlt | hge
  · have hc1 : decide ((k : Int) < ((lbRs l).length : Int)) = true := decide_eq_true (by omega)
    obtain ⟨x, hx⟩ : ∃ x, l[k]? = some x := ⟨_, List.getElem?_eq_getElem hlt⟩
    have hxr := lbRs_at hx
    obtain ⟨b1, b2⟩ := hL x (List.mem_of_getElem? hx)
    by_cases a1 : vw x.1
    · have e1 : (!decide (vw x.1)) = false := by rw [decide_eq_true a1]; rfl
      by_cases a2 : vw x.2
      · have e2 : (!decide (vw x.2)) = false := by rw [decide_eq_true a2]; rfl
        by_cases k0 : 0 < k
        · have d3 : decide (0 < (k : Int)) = true := decide_eq_true (by omega)
          obtain ⟨y, hy⟩ : ∃ y, l[k - 1]? = some y := ⟨_, List.getElem?_eq_getElem (by omega)⟩
          have hyr := lbRs_at hy
          cases hs : sle x.1 y.1
          · have hok : lbOk l k := fun z hz => by rw [hx] at hz; cases hz; exact ⟨a1, a2, fun w _ hw => by rw [hy] at hw; cases hw; exact hs⟩
            repeat' (first | (refine is_al ?_; (first | (refine is_move ?_; (first | refine al_v (opx_move (.raw _)) ⟨rfl, trivial⟩ trivial rfl ?_ | refine al_v (opx_move (.sl _ _)) ⟨rfl, trivial⟩ trivial rfl ?_)) | (refine is_bin ?_; (first | refine al_v opx_lss ⟨rfl, rfl, trivial⟩ trivial rfl ?_ | refine al_v (opx_add (by unfold InR; omega)) ⟨rfl, rfl, trivial⟩ trivial rfl ?_)) | (refine is_assign ?_; refine al_v (opx_assign (.raw _)) ⟨rfl, trivial⟩ trivial rfl ?_) | (refine is_bi ?_; refine al_v opx_len_sl ⟨rfl, trivial⟩ trivial rfl ?_) | refine al_nil ?_)) | (refine is_ad ?_; (first | (refine isd_gd ?_; (first | (refine isd_move ?_; (first | refine ad_on rfl rfl (by assumption) (opx_move (.raw _)) ⟨rfl, trivial⟩ trivial rfl ?_ | refine ad_on rfl rfl (by assumption) (opx_move (.sl _ _)) ⟨rfl, trivial⟩ trivial rfl ?_)) | (refine isd_bin ?_; (first | refine ad_on rfl rfl (by assumption) opx_gtr ⟨rfl, rfl, trivial⟩ trivial rfl ?_ | refine ad_on rfl rfl (by assumption) (opx_sub (by unfold InR; omega)) ⟨rfl, rfl, trivial⟩ trivial rfl ?_ | refine ad_on rfl rfl (by assumption) opx_sleq ⟨rfl, rfl, trivial⟩ trivial rfl ?_)) | (refine isd_load ?_; refine ad_on rfl rfl (by assumption) opx_ld_imm ⟨rfl, trivial⟩ trivial rfl ?_) | (refine isd_fa ?_; (first | refine ad_on rfl rfl (by assumption) opx_fa_imm0 ⟨rfl, trivial⟩ trivial rfl ?_ | refine ad_on rfl rfl (by assumption) opx_fa_imm1 ⟨rfl, trivial⟩ trivial rfl ?_)) | (refine isd_pick ?_; refine ad_on rfl rfl (by assumption) (opx_pick_t (.raw _) (by assumption)) ⟨rfl, rfl, trivial⟩ trivial rfl ?_) | (refine isd_ia ?_; (first | refine ad_on rfl rfl (by assumption) (opx_ia_sl2 hxr (by omega)) ⟨rfl, rfl, trivial⟩ trivial rfl ?_ | refine ad_on rfl rfl (by assumption) (opx_ia_sl2 hyr (by omega)) ⟨rfl, rfl, trivial⟩ trivial rfl ?_)) | (refine isd_call ?_; refine ad_callv_on2 rfl rfl (by assumption) (by (repeat (first | exact .nil | refine .one rfl rfl ?_ | refine .froz rfl rfl ?_ | refine .row rfl rfl ?_ | refine .rnil rfl ?_ | refine .agg rfl (by (repeat (first | exact .nil | refine .cons (.same rfl) ?_ | refine .cons (.froz rfl) ?_ | refine .cons (.rnil) ?_ | refine .cons (.row rfl rfl) ?_)); (first | done | fail)) ?_)); (first | done | fail)) rfl (c_svalidWord _ b2) rfl ?_) | refine ad_on rfl rfl (by assumption) opx_not ⟨rfl, trivial⟩ trivial rfl ?_)) | (refine isd_move ?_; (first | refine ad_v (opx_move (.raw _)) ⟨rfl, trivial⟩ trivial rfl ?_ | refine ad_v (opx_move (.sl _ _)) ⟨rfl, trivial⟩ trivial rfl ?_)) | (refine isd_load ?_; refine ad_v opx_ld_imm ⟨rfl, trivial⟩ trivial rfl ?_) | (refine isd_fa ?_; refine ad_v opx_fa_imm0 ⟨rfl, trivial⟩ trivial rfl ?_) | (refine isd_pick ?_; refine ad_v (opx_pick_f (.raw _) (by assumption)) ⟨rfl, rfl, trivial⟩ trivial rfl ?_) | (refine isd_ia ?_; refine ad_v (opx_ia_sl2 hxr (by omega)) ⟨rfl, rfl, trivial⟩ trivial rfl ?_) | (refine isd_call ?_; refine ad_callv2 (by (repeat (first | exact .nil | refine .one rfl rfl ?_ | refine .froz rfl rfl ?_ | refine .row rfl rfl ?_ | refine .rnil rfl ?_ | refine .agg rfl (by (repeat (first | exact .nil | refine .cons (.same rfl) ?_ | refine .cons (.froz rfl) ?_ | refine .cons (.rnil) ?_ | refine .cons (.row rfl rfl) ?_)); (first | done | fail)) ?_)); (first | done | fail)) rfl (c_svalidWord _ b1) rfl ?_) | refine ad_v opx_not ⟨rfl, trivial⟩ trivial rfl ?_ | refine ad_nil (by kernel_rfl) ?_)) | (refine is_aw ?_; (first | refine aw_seq ?_ | refine aw_region ?_ | refine aw_skip ?_ | refine aw_block ?_ | (refine is_cond ?_; (first | refine aw_cond_t rfl (by assumption) ?_ | refine aw_cond_f rfl (by assumption) ?_)) | refine aw_draw mixed ?_)) | refine thn_n ?_)
            exact ⟨k + 1, ⟨hlt, fun j hj => by rcases Nat.lt_or_ge j k with h | h; exact ha j h; rw [show j = k by omega]; exact hok⟩, by omega, le_mk [] rfl rfl rfl rfl ⟨rfl, rfl, trivial⟩ trivial⟩
          · have hv : vlB l = false := vl_bad (k := k) fun h => by have := (h x hx).2.2 y k0 hy; rw [hs] at this; cases this
            repeat' (first | (refine is_al ?_; (first | (refine is_move ?_; (first | refine al_v (opx_move (.raw _)) ⟨rfl, trivial⟩ trivial rfl ?_ | refine al_v (opx_move (.sl _ _)) ⟨rfl, trivial⟩ trivial rfl ?_)) | (refine is_bin ?_; refine al_v opx_lss ⟨rfl, rfl, trivial⟩ trivial rfl ?_) | (refine is_assign ?_; refine al_v (opx_assign (.raw _)) ⟨rfl, trivial⟩ trivial rfl ?_) | (refine is_bi ?_; refine al_v opx_len_sl ⟨rfl, trivial⟩ trivial rfl ?_) | refine al_nil ?_)) | (refine is_ad ?_; (first | (refine isd_gd ?_; (first | (refine isd_move ?_; (first | refine ad_on rfl rfl (by assumption) (opx_move (.raw _)) ⟨rfl, trivial⟩ trivial rfl ?_ | refine ad_on rfl rfl (by assumption) (opx_move (.sl _ _)) ⟨rfl, trivial⟩ trivial rfl ?_)) | (refine isd_bin ?_; (first | refine ad_on rfl rfl (by assumption) opx_gtr ⟨rfl, rfl, trivial⟩ trivial rfl ?_ | refine ad_on rfl rfl (by assumption) (opx_sub (by unfold InR; omega)) ⟨rfl, rfl, trivial⟩ trivial rfl ?_ | refine ad_on rfl rfl (by assumption) opx_sleq ⟨rfl, rfl, trivial⟩ trivial rfl ?_)) | (refine isd_load ?_; refine ad_on rfl rfl (by assumption) opx_ld_imm ⟨rfl, trivial⟩ trivial rfl ?_) | (refine isd_fa ?_; (first | refine ad_on rfl rfl (by assumption) opx_fa_imm0 ⟨rfl, trivial⟩ trivial rfl ?_ | refine ad_on rfl rfl (by assumption) opx_fa_imm1 ⟨rfl, trivial⟩ trivial rfl ?_)) | (refine isd_pick ?_; refine ad_on rfl rfl (by assumption) (opx_pick_t (.raw _) (by assumption)) ⟨rfl, rfl, trivial⟩ trivial rfl ?_) | (refine isd_ia ?_; (first | refine ad_on rfl rfl (by assumption) (opx_ia_sl2 hxr (by omega)) ⟨rfl, rfl, trivial⟩ trivial rfl ?_ | refine ad_on rfl rfl (by assumption) (opx_ia_sl2 hyr (by omega)) ⟨rfl, rfl, trivial⟩ trivial rfl ?_)) | (refine isd_call ?_; refine ad_callv_on2 rfl rfl (by assumption) (by (repeat (first | exact .nil | refine .one rfl rfl ?_ | refine .froz rfl rfl ?_ | refine .row rfl rfl ?_ | refine .rnil rfl ?_ | refine .agg rfl (by (repeat (first | exact .nil | refine .cons (.same rfl) ?_ | refine .cons (.froz rfl) ?_ | refine .cons (.rnil) ?_ | refine .cons (.row rfl rfl) ?_)); (first | done | fail)) ?_)); (first | done | fail)) rfl (c_svalidWord _ b2) rfl ?_) | refine ad_on rfl rfl (by assumption) opx_not ⟨rfl, trivial⟩ trivial rfl ?_)) | (refine isd_move ?_; (first | refine ad_v (opx_move (.raw _)) ⟨rfl, trivial⟩ trivial rfl ?_ | refine ad_v (opx_move (.sl _ _)) ⟨rfl, trivial⟩ trivial rfl ?_)) | (refine isd_load ?_; refine ad_v opx_ld_imm ⟨rfl, trivial⟩ trivial rfl ?_) | (refine isd_fa ?_; refine ad_v opx_fa_imm0 ⟨rfl, trivial⟩ trivial rfl ?_) | (refine isd_pick ?_; refine ad_v (opx_pick_f (.raw _) (by assumption)) ⟨rfl, rfl, trivial⟩ trivial rfl ?_) | (refine isd_ia ?_; refine ad_v (opx_ia_sl2 hxr (by omega)) ⟨rfl, rfl, trivial⟩ trivial rfl ?_) | (refine isd_call ?_; refine ad_callv2 (by (repeat (first | exact .nil | refine .one rfl rfl ?_ | refine .froz rfl rfl ?_ | refine .row rfl rfl ?_ | refine .rnil rfl ?_ | refine .agg rfl (by (repeat (first | exact .nil | refine .cons (.same rfl) ?_ | refine .cons (.froz rfl) ?_ | refine .cons (.rnil) ?_ | refine .cons (.row rfl rfl) ?_)); (first | done | fail)) ?_)); (first | done | fail)) rfl (c_svalidWord _ b1) rfl ?_) | refine ad_v opx_not ⟨rfl, trivial⟩ trivial rfl ?_ | refine ad_nil (by kernel_rfl) ?_)) | (refine is_aw ?_; (first | refine aw_seq ?_ | refine aw_region ?_ | refine aw_skip ?_ | refine aw_block ?_ | refine aw_ret ?_ | (refine is_cond ?_; refine aw_cond_t rfl (by assumption) ?_) | refine aw_draw mixed ?_)) | refine thn_r ?_ | refine inb_r ?_)
            exact ret_raw trivial rfl ⟨congrArg (fun b => [rB b]) (hv.symm), rfl⟩
        · have d3 : decide (0 < (k : Int)) = false := decide_eq_false (by omega)
          have hok : lbOk l k := fun z hz => by rw [hx] at hz; cases hz; exact ⟨a1, a2, fun w h0 _ => absurd h0 k0⟩
          repeat' (first | (refine is_al ?_; (first | (refine is_move ?_; (first | refine al_v (opx_move (.raw _)) ⟨rfl, trivial⟩ trivial rfl ?_ | refine al_v (opx_move (.sl _ _)) ⟨rfl, trivial⟩ trivial rfl ?_)) | (refine is_bin ?_; (first | refine al_v opx_lss ⟨rfl, rfl, trivial⟩ trivial rfl ?_ | refine al_v (opx_add (by unfold InR; omega)) ⟨rfl, rfl, trivial⟩ trivial rfl ?_)) | (refine is_assign ?_; refine al_v (opx_assign (.raw _)) ⟨rfl, trivial⟩ trivial rfl ?_) | (refine is_bi ?_; refine al_v opx_len_sl ⟨rfl, trivial⟩ trivial rfl ?_) | refine al_nil ?_)) | (refine is_ad ?_; (first | (refine isd_gd ?_; (first | refine ad_off rfl rfl (by assumption) rfl ?_ | (refine isd_move ?_; (first | refine ad_on rfl rfl (by assumption) (opx_move (.raw _)) ⟨rfl, trivial⟩ trivial rfl ?_ | refine ad_on rfl rfl (by assumption) (opx_move (.sl _ _)) ⟨rfl, trivial⟩ trivial rfl ?_)) | (refine isd_bin ?_; refine ad_on rfl rfl (by assumption) opx_gtr ⟨rfl, rfl, trivial⟩ trivial rfl ?_) | (refine isd_load ?_; refine ad_on rfl rfl (by assumption) opx_ld_imm ⟨rfl, trivial⟩ trivial rfl ?_) | (refine isd_fa ?_; refine ad_on rfl rfl (by assumption) opx_fa_imm1 ⟨rfl, trivial⟩ trivial rfl ?_) | (refine isd_pick ?_; refine ad_on rfl rfl (by assumption) (opx_pick_f (.raw _) (by assumption)) ⟨rfl, rfl, trivial⟩ trivial rfl ?_) | (refine isd_ia ?_; refine ad_on rfl rfl (by assumption) (opx_ia_sl2 hxr (by omega)) ⟨rfl, rfl, trivial⟩ trivial rfl ?_) | (refine isd_call ?_; refine ad_callv_on2 rfl rfl (by assumption) (by (repeat (first | exact .nil | refine .one rfl rfl ?_ | refine .froz rfl rfl ?_ | refine .row rfl rfl ?_ | refine .rnil rfl ?_ | refine .agg rfl (by (repeat (first | exact .nil | refine .cons (.same rfl) ?_ | refine .cons (.froz rfl) ?_ | refine .cons (.rnil) ?_ | refine .cons (.row rfl rfl) ?_)); (first | done | fail)) ?_)); (first | done | fail)) rfl (c_svalidWord _ b2) rfl ?_) | refine ad_on rfl rfl (by assumption) opx_not ⟨rfl, trivial⟩ trivial rfl ?_)) | (refine isd_move ?_; (first | refine ad_v (opx_move (.raw _)) ⟨rfl, trivial⟩ trivial rfl ?_ | refine ad_v (opx_move (.sl _ _)) ⟨rfl, trivial⟩ trivial rfl ?_)) | (refine isd_load ?_; refine ad_v opx_ld_imm ⟨rfl, trivial⟩ trivial rfl ?_) | (refine isd_fa ?_; refine ad_v opx_fa_imm0 ⟨rfl, trivial⟩ trivial rfl ?_) | (refine isd_pick ?_; refine ad_v (opx_pick_f (.raw _) (by assumption)) ⟨rfl, rfl, trivial⟩ trivial rfl ?_) | (refine isd_ia ?_; refine ad_v (opx_ia_sl2 hxr (by omega)) ⟨rfl, rfl, trivial⟩ trivial rfl ?_) | (refine isd_call ?_; refine ad_callv2 (by (repeat (first | exact .nil | refine .one rfl rfl ?_ | refine .froz rfl rfl ?_ | refine .row rfl rfl ?_ | refine .rnil rfl ?_ | refine .agg rfl (by (repeat (first | exact .nil | refine .cons (.same rfl) ?_ | refine .cons (.froz rfl) ?_ | refine .cons (.rnil) ?_ | refine .cons (.row rfl rfl) ?_)); (first | done | fail)) ?_)); (first | done | fail)) rfl (c_svalidWord _ b1) rfl ?_) | refine ad_v opx_not ⟨rfl, trivial⟩ trivial rfl ?_ | refine ad_nil (by kernel_rfl) ?_)) | (refine is_aw ?_; (first | refine aw_seq ?_ | refine aw_region ?_ | refine aw_skip ?_ | refine aw_block ?_ | (refine is_cond ?_; (first | refine aw_cond_f rfl rfl ?_ | refine aw_cond_t rfl (by assumption) ?_)) | refine aw_draw mixed ?_)) | refine thn_n ?_)
          exact ⟨k + 1, ⟨hlt, fun j hj => by rcases Nat.lt_or_ge j k with h | h; exact ha j h; rw [show j = k by omega]; exact hok⟩, by omega, le_mk [] rfl rfl rfl rfl ⟨rfl, rfl, trivial⟩ trivial⟩
      · have e2 : (!decide (vw x.2)) = true := by rw [decide_eq_false a2]; rfl
        have hv : vlB l = false := vl_bad (k := k) fun h => a2 (h x hx).2.1
        repeat' (first | (refine is_al ?_; (first | (refine is_move ?_; (first | refine al_v (opx_move (.raw _)) ⟨rfl, trivial⟩ trivial rfl ?_ | refine al_v (opx_move (.sl _ _)) ⟨rfl, trivial⟩ trivial rfl ?_)) | (refine is_bin ?_; refine al_v opx_lss ⟨rfl, rfl, trivial⟩ trivial rfl ?_) | (refine is_assign ?_; refine al_v (opx_assign (.raw _)) ⟨rfl, trivial⟩ trivial rfl ?_) | (refine is_bi ?_; refine al_v opx_len_sl ⟨rfl, trivial⟩ trivial rfl ?_) | refine al_nil ?_)) | (refine is_ad ?_; (first | (refine isd_gd ?_; (first | refine ad_off rfl rfl (by assumption) rfl ?_ | refine ad_off2 rfl rfl rfl ?_ | (refine isd_move ?_; (first | refine ad_on rfl rfl (by assumption) (opx_move (.raw _)) ⟨rfl, trivial⟩ trivial rfl ?_ | refine ad_on rfl rfl (by assumption) (opx_move (.sl _ _)) ⟨rfl, trivial⟩ trivial rfl ?_)) | (refine isd_load ?_; refine ad_on rfl rfl (by assumption) opx_ld_imm ⟨rfl, trivial⟩ trivial rfl ?_) | (refine isd_fa ?_; refine ad_on rfl rfl (by assumption) opx_fa_imm1 ⟨rfl, trivial⟩ trivial rfl ?_) | (refine isd_ia ?_; refine ad_on rfl rfl (by assumption) (opx_ia_sl2 hxr (by omega)) ⟨rfl, rfl, trivial⟩ trivial rfl ?_) | (refine isd_call ?_; refine ad_callv_on2 rfl rfl (by assumption) (by (repeat (first | exact .nil | refine .one rfl rfl ?_ | refine .froz rfl rfl ?_ | refine .row rfl rfl ?_ | refine .rnil rfl ?_ | refine .agg rfl (by (repeat (first | exact .nil | refine .cons (.same rfl) ?_ | refine .cons (.froz rfl) ?_ | refine .cons (.rnil) ?_ | refine .cons (.row rfl rfl) ?_)); (first | done | fail)) ?_)); (first | done | fail)) rfl (c_svalidWord _ b2) rfl ?_) | refine ad_on rfl rfl (by assumption) opx_not ⟨rfl, trivial⟩ trivial rfl ?_)) | (refine isd_move ?_; (first | refine ad_v (opx_move (.raw _)) ⟨rfl, trivial⟩ trivial rfl ?_ | refine ad_v (opx_move (.sl _ _)) ⟨rfl, trivial⟩ trivial rfl ?_)) | (refine isd_load ?_; refine ad_v opx_ld_imm ⟨rfl, trivial⟩ trivial rfl ?_) | (refine isd_fa ?_; refine ad_v opx_fa_imm0 ⟨rfl, trivial⟩ trivial rfl ?_) | (refine isd_pick ?_; (first | refine ad_v (opx_pick_t (.raw _) (by assumption)) ⟨rfl, rfl, trivial⟩ trivial rfl ?_ | refine ad_v (opx_pick_f (.raw _) (by assumption)) ⟨rfl, rfl, trivial⟩ trivial rfl ?_)) | (refine isd_ia ?_; refine ad_v (opx_ia_sl2 hxr (by omega)) ⟨rfl, rfl, trivial⟩ trivial rfl ?_) | (refine isd_call ?_; refine ad_callv2 (by (repeat (first | exact .nil | refine .one rfl rfl ?_ | refine .froz rfl rfl ?_ | refine .row rfl rfl ?_ | refine .rnil rfl ?_ | refine .agg rfl (by (repeat (first | exact .nil | refine .cons (.same rfl) ?_ | refine .cons (.froz rfl) ?_ | refine .cons (.rnil) ?_ | refine .cons (.row rfl rfl) ?_)); (first | done | fail)) ?_)); (first | done | fail)) rfl (c_svalidWord _ b1) rfl ?_) | refine ad_v opx_not ⟨rfl, trivial⟩ trivial rfl ?_ | refine ad_nil (by kernel_rfl) ?_)) | (refine is_aw ?_; (first | refine aw_seq ?_ | refine aw_region ?_ | refine aw_skip ?_ | refine aw_block ?_ | refine aw_ret ?_ | (refine is_cond ?_; (first | refine aw_cond_t rfl rfl ?_ | refine aw_cond_t rfl (by assumption) ?_)) | refine aw_draw mixed ?_)) | refine thn_r ?_ | refine inb_r ?_)
        exact ret_raw trivial rfl ⟨congrArg (fun b => [rB b]) (hv.symm), rfl⟩
    · have e1 : (!decide (vw x.1)) = true := by rw [decide_eq_false a1]; rfl
      have hv : vlB l = false := vl_bad (k := k) fun h => a1 (h x hx).1
      repeat' (first | (refine is_al ?_; (first | (refine is_move ?_; (first | refine al_v (opx_move (.raw _)) ⟨rfl, trivial⟩ trivial rfl ?_ | refine al_v (opx_move (.sl _ _)) ⟨rfl, trivial⟩ trivial rfl ?_)) | (refine is_bin ?_; refine al_v opx_lss ⟨rfl, rfl, trivial⟩ trivial rfl ?_) | (refine is_assign ?_; refine al_v (opx_assign (.raw _)) ⟨rfl, trivial⟩ trivial rfl ?_) | (refine is_bi ?_; refine al_v opx_len_sl ⟨rfl, trivial⟩ trivial rfl ?_) | refine al_nil ?_)) | (refine is_ad ?_; (first | (refine isd_gd ?_; (first | refine ad_off rfl rfl (by assumption) rfl ?_ | refine ad_off2 rfl rfl rfl ?_)) | (refine isd_move ?_; (first | refine ad_v (opx_move (.raw _)) ⟨rfl, trivial⟩ trivial rfl ?_ | refine ad_v (opx_move (.sl _ _)) ⟨rfl, trivial⟩ trivial rfl ?_)) | (refine isd_load ?_; refine ad_v opx_ld_imm ⟨rfl, trivial⟩ trivial rfl ?_) | (refine isd_fa ?_; refine ad_v opx_fa_imm0 ⟨rfl, trivial⟩ trivial rfl ?_) | (refine isd_pick ?_; (first | refine ad_v (opx_pick_t (.raw _) rfl) ⟨rfl, rfl, trivial⟩ trivial rfl ?_ | refine ad_v (opx_pick_t (.raw _) (by assumption)) ⟨rfl, rfl, trivial⟩ trivial rfl ?_)) | (refine isd_ia ?_; refine ad_v (opx_ia_sl2 hxr (by omega)) ⟨rfl, rfl, trivial⟩ trivial rfl ?_) | (refine isd_call ?_; refine ad_callv2 (by (repeat (first | exact .nil | refine .one rfl rfl ?_ | refine .froz rfl rfl ?_ | refine .row rfl rfl ?_ | refine .rnil rfl ?_ | refine .agg rfl (by (repeat (first | exact .nil | refine .cons (.same rfl) ?_ | refine .cons (.froz rfl) ?_ | refine .cons (.rnil) ?_ | refine .cons (.row rfl rfl) ?_)); (first | done | fail)) ?_)); (first | done | fail)) rfl (c_svalidWord _ b1) rfl ?_) | refine ad_v opx_not ⟨rfl, trivial⟩ trivial rfl ?_ | refine ad_nil (by kernel_rfl) ?_)) | (refine is_aw ?_; (first | refine aw_seq ?_ | refine aw_region ?_ | refine aw_skip ?_ | refine aw_block ?_ | refine aw_ret ?_ | (refine is_cond ?_; (first | refine aw_cond_t rfl rfl ?_ | refine aw_cond_t rfl (by assumption) ?_)) | refine aw_draw mixed ?_)) | refine thn_r ?_ | refine inb_r ?_)
      exact ret_raw trivial rfl ⟨congrArg (fun b => [rB b]) (hv.symm), rfl⟩
  · have hc1 : decide ((k : Int) < ((lbRs l).length : Int)) = false := decide_eq_false (by omega)
    have hv : vlB l = decide (((lbRs l).length : Int) ≤ 4) := by
      by_cases h4 : l.length ≤ 4
      · rw [decide_eq_true (by omega)]
        exact vlB_t ⟨h4, fun j => by
          rcases Nat.lt_or_ge j k with h | h
          · exact ha j h
          · intro x hx; rw [List.getElem?_eq_none (by omega)] at hx; cases hx⟩
      · rw [decide_eq_false (by omega)]
        exact vlB_f fun h => h4 h.1
    repeat' (first | (refine is_al ?_; (first | (refine is_move ?_; (first | refine al_v (opx_move (.raw _)) ⟨rfl, trivial⟩ trivial rfl ?_ | refine al_v (opx_move (.sl _ _)) ⟨rfl, trivial⟩ trivial rfl ?_)) | (refine is_bin ?_; (first | refine al_v opx_lss ⟨rfl, rfl, trivial⟩ trivial rfl ?_ | refine al_v opx_leq ⟨rfl, rfl, trivial⟩ trivial rfl ?_)) | (refine is_assign ?_; refine al_v (opx_assign (.raw _)) ⟨rfl, trivial⟩ trivial rfl ?_) | (refine is_bi ?_; refine al_v opx_len_sl ⟨rfl, trivial⟩ trivial rfl ?_) | refine al_nil ?_)) | (refine is_aw ?_; (first | refine aw_seq ?_ | refine aw_region ?_ | refine aw_ret ?_ | refine aw_exit ?_ | (refine is_cond ?_; refine aw_cond_f rfl (by assumption) ?_))))
    exact ret_raw trivial rfl ⟨congrArg (fun b => [rB b]) (hv.symm), rfl⟩
end Go.Proofs.YtllgddednlfhfaaDoor

/-
  The text of labels: the walks.
-/
namespace Go.Proofs.YtllgddednlfhfaaDoor
open Go.RowKit
set_option linter.unusedVariables false
set_option linter.unusedSimpArgs false
attribute [local irreducible] AL AW OpX Le AD

theorem jn_lib : ∀ {l : List Str}, Lib.join l [44] = jn 44 l
  | [] => rfl
  | [x] => by rw [Lib.join_one]; rfl
  | x :: y :: r => by
    have ih := jn_lib (l := y :: r)
    rw [jn_cons (by simp), ← ih]
    simp [Lib.join, List.intercalate]
theorem stRs_cells {Z : Nat → Prop} {w : World} : ∀ {l : List Str} {us : List Value}, DL Z w (stRs l).flatten us → us = l.map fun s => Value.string ⟨s.toArray⟩
  | [], [], _ => rfl
  | [], _ :: _, h => h.elim
  | b :: bs, u :: us, h => by
    have h1 : DC Z w (cS b) u := h.1
    have h2 := stRs_cells (l := bs) (us := us) h.2
    cases h1
    rw [h2]; rfl
  | _ :: _, [], h => h.elim
theorem c_Join (l : List Str) (hn : l.length ≤ 1000) (hl : (jn 44 l).length ≤ 140737488355328) : Con Tryd.prog 38 [slS l, rStr [44]] [] (fun rs all => rs = [rStr (jn 44 l)] ∧ all = []) := by
  refine con_of_below (v := .string ⟨(jn 44 l).toArray⟩) rfl (by kernel_rfl) fun w ρ Z vs hd hz => ?_
  match vs, hd with
  | [u, v], hd =>
    have hv : v = .string ⟨#[44]⟩ := by
      have h : DC Z w (cS [44]) v := hd.2.1
      cases h; rfl
    subst hv
    have hu : DC Z w (.sl 1 (stRs l)) u := hd.1
    generalize hr : stRs l = rows at hu
    cases hu with
    | nil _ ao cap h =>
      have h0 : l = [] := by
        have := stRs_len (xs := l); rw [hr] at this; exact List.eq_nil_of_length_eq_zero this.symm
      subst h0
      exact (strings_Join_none ao cap ⟨#[44]⟩ w).mono fun e w' ⟨h1, h2⟩ => ⟨h1, h2 ▸ Below.refl _ _⟩
    | sl _ _ b off n cap us h1 hw hzb hc hm hl2 hcell hd2 =>
      subst hr
      have hnl : n = l.length := by rw [← h1, stRs_len]
      have hus := stRs_cells (DL.mk hl2 hd2)
      have e1 : (l.map fun s => (⟨s.toArray⟩ : ByteArray)).map (·.data.toList) = l := by rw [List.map_map]; simp [Function.comp_def]
      have hj := strings_Join b off cap (l.map fun s => ⟨s.toArray⟩) ⟨#[44]⟩ w (fun j x hx => hcell j _ (by
        rw [hus, List.getElem?_map]
        rw [List.getElem?_map] at hx
        cases h : l[j]? with
        | none => rw [h] at hx; cases hx
        | some y => rw [h] at hx; cases hx; rfl)) (hz b hzb) (by rw [List.length_map]; omega) (by rw [List.length_map]; omega) (by rw [e1]; show (Lib.join l [44]).length ≤ _; rw [jn_lib]; exact hl)
      rw [e1, List.length_map] at hj
      subst hnl
      exact hj.mono fun e w' ⟨g1, g2⟩ => ⟨g1.trans (by rw [← jn_lib]), g2⟩
/-! ### formatting -/
noncomputable def fmt (l : List Lb) : Str := if vlB l = true then txt l else []
theorem fmt_t {l : List Lb} (h : vlB l = true) : fmt l = txt l := by rw [fmt, if_pos h]
theorem fmt_f {l : List Lb} (h : vlB l = false) : fmt l = [] := by rw [fmt, h]; rfl
theorem jn_len {c : UInt8} {m : Nat} : ∀ {l : List Str}, (∀ p ∈ l, p.length ≤ m) → (jn c l).length ≤ (m + 1) * l.length
  | [], _ => Nat.zero_le _
  | [x], h => by have := h x (.head _); simp only [jn, List.length_singleton]; omega
  | x :: y :: r, h => by
    have h1 := h x (.head _)
    have h2 := jn_len (c := c) (l := y :: r) (fun p hp => h p (.tail _ hp))
    rw [jn_cons (by simp), List.length_append, List.length_cons, List.length_cons, Nat.mul_add]
    omega
theorem eqt_len {x : Lb} : (eqt x).length = x.1.length + x.2.length + 1 := by simp [eqt]; omega
theorem eqts_take {l : List Lb} {k : Nat} {x : Lb} (h : l[k]? = some x) : (l.take (k + 1)).map eqt = (l.take k).map eqt ++ [x.1 ++ [61] ++ x.2] := by
  rw [List.take_add_one, h, List.map_append]; simp [eqt]
theorem VL_jn {l : List Lb} (h : VL l) (k : Nat) : (jn 44 ((l.take k).map eqt)).length ≤ 40 := by
  have h1 := jn_len (c := 44) (m := 9) (l := (l.take k).map eqt) (fun p hp => by
    obtain ⟨x, hx, rfl⟩ := List.mem_map.1 hp
    obtain ⟨a1, a2⟩ := VL_mem h (List.mem_of_mem_take hx)
    have b1 := a1.2.1
    have b2 := a2.2.1
    rw [eqt_len]; omega)
  have h2 := h.1
  rw [List.length_map, List.length_take] at h1
  omega
theorem c_FormatLabels (l : List Lb) (hL : ∀ x ∈ l, BIG x.1.length ∧ BIG x.2.length) (hl : BIG l.length) : Con Tryd.prog 16 [slL l] [] (fun rs all => rs = [rStr (fmt l)] ∧ all = []) := by
  have hlr := lbRs_len (xs := l)
  refine con_of_aw (vars := [.tmp 2]) [(0, .r (slL l))] [] 0 Tryd.func16 (by kernel_rfl) rfl Tryd.ntmps16 rfl (by decide) rfl rfl rfl rfl rfl ?_; intro B M w0 ρ0 Z0
  have n1 : (!true) = false := rfl
  have n2 : (!false) = true := rfl
  have hcv := c_ValidLabels l hL hl
  cases hv : vlB l
  · rw [hv] at hcv
    repeat' (first | (refine is_al ?_; (first | (refine is_move ?_; refine al_v (opx_move (.sl _ _)) ⟨rfl, trivial⟩ trivial rfl ?_) | (refine is_assign ?_; refine al_v (opx_assign (.raw _)) ⟨rfl, trivial⟩ trivial rfl ?_) | (refine is_call ?_; refine al_callv2 (by (repeat (first | exact .nil | refine .one rfl rfl ?_ | refine .froz rfl rfl ?_ | refine .row rfl rfl ?_ | refine .rnil rfl ?_ | refine .agg rfl (by (repeat (first | exact .nil | refine .cons (.same rfl) ?_ | refine .cons (.froz rfl) ?_ | refine .cons (.rnil) ?_ | refine .cons (.row rfl rfl) ?_)); (first | done | fail)) ?_)); (first | done | fail)) rfl (hcv) rfl ?_) | refine al_v opx_not ⟨rfl, trivial⟩ trivial rfl ?_ | refine al_nil ?_)) | (refine is_aw ?_; (first | refine aw_seq ?_ | refine aw_region ?_ | refine aw_ret ?_ | (refine is_cond ?_; refine aw_cond_t rfl rfl ?_))) | refine thn_r ?_)
    exact ret_raw trivial rfl ⟨by rw [fmt_f hv], rfl⟩
  · rw [hv] at hcv
    have hV := vlB_of hv
    have h4 := hV.1
    repeat' (first | (refine is_al ?_; (first | (refine is_move ?_; (first | refine al_v (opx_move (.raw _)) ⟨rfl, trivial⟩ trivial rfl ?_ | refine al_v (opx_move (.sl _ _)) ⟨rfl, trivial⟩ trivial rfl ?_)) | (refine is_assign ?_; (first | refine al_v (opx_assign (.raw _)) ⟨rfl, trivial⟩ trivial rfl ?_ | refine al_v (opx_assign (.own _)) ⟨rfl, trivial⟩ trivial rfl ?_)) | (refine is_bi ?_; refine al_v opx_len_sl ⟨rfl, trivial⟩ trivial rfl ?_) | (refine is_call ?_; refine al_callv2 (by (repeat (first | exact .nil | refine .one rfl rfl ?_ | refine .froz rfl rfl ?_ | refine .row rfl rfl ?_ | refine .rnil rfl ?_ | refine .agg rfl (by (repeat (first | exact .nil | refine .cons (.same rfl) ?_ | refine .cons (.froz rfl) ?_ | refine .cons (.rnil) ?_ | refine .cons (.row rfl rfl) ?_)); (first | done | fail)) ?_)); (first | done | fail)) rfl (hcv) rfl ?_) | refine al_v opx_not ⟨rfl, trivial⟩ trivial rfl ?_ | refine al_mk0 rfl rfl rfl rfl (by omega) ?_ | refine al_nil ?_)) | (refine is_aw ?_; (first | refine aw_seq ?_ | refine aw_region ?_ | refine aw_skip ?_ | refine aw_block ?_ | (refine is_cond ?_; refine aw_cond_f rfl rfl ?_))))
    refine aw_loop (γ := Nat) (fun k => [(3, .own 0), (12, .sl 2 (lbRs l)), (13, .i ((lbRs l).length : Int)), (14, .i (k : Int))]) (fun k => [(0, .row 1 9 (stRs ((l.take k).map eqt)))]) (fun _ => 1)
      (fun k => k ≤ l.length) (fun k => l.length - k) 0 (Nat.zero_le _) (le_mk [0] rfl rfl rfl rfl ⟨rfl, rfl, rfl, rfl, trivial⟩ ⟨rfl, trivial⟩) ?_
    intro k hk
    have hkl : ((l.take k).map eqt).length ≤ 4 := by rw [List.length_map, List.length_take]; omega
    rcases Nat.lt_or_ge k l.length with hlt | hge
    · have hc1 : decide ((k : Int) < ((lbRs l).length : Int)) = true := decide_eq_true (by omega)
      obtain ⟨x, hx⟩ : ∃ x, l[k]? = some x := ⟨_, List.getElem?_eq_getElem hlt⟩
      have hxr := lbRs_at hx
      obtain ⟨a1, a2⟩ := VL_mem hV (List.mem_of_getElem? hx)
      have b1 := a1.2.1
      have b2 := a2.2.1
      have hs := eqts_take hx
      repeat' (first | (refine is_al ?_; (first | (refine is_move ?_; (first | refine al_v (opx_move (.raw _)) ⟨rfl, trivial⟩ trivial rfl ?_ | refine al_v (opx_move (.own _)) ⟨rfl, trivial⟩ trivial rfl ?_)) | (refine is_bin ?_; (first | refine al_v opx_lss ⟨rfl, rfl, trivial⟩ trivial rfl ?_ | refine al_v (opx_add (by unfold InR; omega)) ⟨rfl, rfl, trivial⟩ trivial rfl ?_)) | (refine is_load ?_; (first | refine al_v opx_ld2_imm ⟨rfl, trivial⟩ trivial rfl ?_ | refine al_v (opx_ld_box rfl) ⟨rfl, trivial⟩ ⟨rfl, trivial⟩ rfl ?_)) | (refine is_fa ?_; refine al_v opx_fa_ref ⟨rfl, trivial⟩ trivial rfl ?_) | (refine is_assign ?_; refine al_v (opx_assign (.own _)) ⟨rfl, trivial⟩ trivial rfl ?_) | (refine is_ia ?_; refine al_v (opx_ia_sl2 hxr (by omega)) ⟨rfl, rfl, trivial⟩ trivial rfl ?_) | (refine is_st ?_; refine al_s (opx_sts_box (by rfl) (by rfl)) ⟨rfl, rfl, trivial⟩ ⟨rfl, trivial⟩ ?_) | (refine is_bs ?_; refine al_pushS ⟨rfl, trivial⟩ rfl rfl rfl rfl rfl (by omega) ?_) | refine al_n opx_alloc trivial trivial rfl ?_ | refine al_nil ?_ | refine al_v (opx_cat (by first | omega | (simp only [List.length_append, List.length_cons, List.length_nil]; omega))) ⟨rfl, rfl, trivial⟩ trivial rfl ?_)) | (refine is_ad ?_; refine al_v (opx_cat (by first | omega | (simp only [List.length_append, List.length_cons, List.length_nil]; omega))) ⟨rfl, rfl, trivial⟩ trivial rfl ?_) | (refine is_aw ?_; (first | refine aw_seq ?_ | refine aw_region ?_ | refine aw_skip ?_ | refine aw_block ?_ | (refine is_cond ?_; refine aw_cond_t rfl (by assumption) ?_))) | refine thn_n ?_)
      exact ⟨k + 1, hlt, by omega, le_mk [_] rfl rfl rfl rfl ⟨rfl, rfl, rfl, rfl, trivial⟩ ⟨by rw [hs]; rfl, trivial⟩⟩
    · have hc1 : decide ((k : Int) < ((lbRs l).length : Int)) = false := decide_eq_false (by omega)
      have hjl := VL_jn hV k
      rw [List.take_of_length_le hge] at hjl hkl ⊢
      repeat' (first | (refine is_al ?_; (first | (refine is_move ?_; refine al_v (opx_move (.own _)) ⟨rfl, trivial⟩ trivial rfl ?_) | (refine is_bin ?_; refine al_v opx_lss ⟨rfl, rfl, trivial⟩ trivial rfl ?_) | (refine is_assign ?_; refine al_v (opx_assign (.raw _)) ⟨rfl, trivial⟩ trivial rfl ?_) | (refine is_call ?_; refine al_callv2 (by (repeat (first | exact .nil | refine .one rfl rfl ?_ | refine .froz rfl rfl ?_ | refine .row rfl rfl ?_ | refine .rnil rfl ?_ | refine .agg rfl (by (repeat (first | exact .nil | refine .cons (.same rfl) ?_ | refine .cons (.froz rfl) ?_ | refine .cons (.rnil) ?_ | refine .cons (.row rfl rfl) ?_)); (first | done | fail)) ?_)); (first | done | fail)) rfl (c_Join _ (by omega) (by omega)) rfl ?_) | refine al_nil ?_ | refine al_v (opx_cat (by first | omega | (simp only [List.length_append, List.length_cons, List.length_nil]; omega))) ⟨rfl, rfl, trivial⟩ trivial rfl ?_)) | (refine is_ad ?_; refine al_v (opx_cat (by first | omega | (simp only [List.length_append, List.length_cons, List.length_nil]; omega))) ⟨rfl, rfl, trivial⟩ trivial rfl ?_) | (refine is_aw ?_; (first | refine aw_seq ?_ | refine aw_region ?_ | refine aw_ret ?_ | refine aw_exit ?_ | (refine is_cond ?_; refine aw_cond_f rfl (by assumption) ?_))))
      exact ret_raw trivial rfl ⟨by rw [fmt_t hv]; rfl, rfl⟩
/-! ### the reference -/
theorem jn_step {l : List Lb} {k : Nat} {x : Lb} (h : l[k]? = some x) (h0 : 0 < k) : jn 44 ((l.take (k + 1)).map eqt) = jn 44 ((l.take k).map eqt) ++ [44] ++ x.1 ++ [61] ++ x.2 := by
  have hk := (List.getElem?_eq_some_iff.1 h).1
  rw [eqts_take h, jn_snoc (by
    intro e
    have := congrArg List.length e
    rw [List.length_map, List.length_take, List.length_nil] at this
    omega)]
  simp
theorem c_labelsText (l : List Lb) (hV : VL l) : Con Tryd.prog 29 [slL l] [] (fun rs all => rs = [rStr (txt l)] ∧ all = []) := by
  have hlr := lbRs_len (xs := l)
  have h4 := hV.1
  refine con_of_aw (vars := [.tmp 2]) [(0, .r (slL l))] [] 0 Tryd.func29 (by kernel_rfl) rfl Tryd.ntmps29 rfl (by decide) rfl rfl rfl rfl rfl ?_; intro B M w0 ρ0 Z0
  repeat' (first | (refine is_al ?_; (first | (refine is_assign ?_; refine al_v (opx_assign (.raw _)) ⟨rfl, trivial⟩ trivial rfl ?_) | refine al_nil ?_)) | (refine is_aw ?_; (first | refine aw_seq ?_ | refine aw_region ?_ | refine aw_block ?_)))
  refine aw_loop (γ := Nat) (fun k => [(0, .r (slL l)), (3, .str (123 :: jn 44 ((l.take k).map eqt))), (4, .i (k : Int))]) (fun k => []) (fun _ => 0)
    (fun k => k ≤ l.length) (fun k => l.length - k) 0 (Nat.zero_le _) (le_mk [] rfl rfl rfl rfl ⟨rfl, rfl, rfl, trivial⟩ trivial) ?_
  intro k hk
  have hjl := VL_jn hV k
  rcases Nat.lt_or_ge k l.length with hlt | hge
  · have hc1 : decide ((k : Int) < ((lbRs l).length : Int)) = true := decide_eq_true (by omega)
    obtain ⟨x, hx⟩ : ∃ x, l[k]? = some x := ⟨_, List.getElem?_eq_getElem hlt⟩
    have hxr := lbRs_at hx
    obtain ⟨a1, a2⟩ := VL_mem hV (List.mem_of_getElem? hx)
    have b1 := a1.2.1
    have b2 := a2.2.1
    by_cases k0 : 0 < k
    · have d1 : decide (0 < (k : Int)) = true := decide_eq_true (by omega)
      have hs := jn_step hx k0
      repeat' (first | (refine is_al ?_; (first | (refine is_move ?_; (first | refine al_v (opx_move (.raw _)) ⟨rfl, trivial⟩ trivial rfl ?_ | refine al_v (opx_move (.sl _ _)) ⟨rfl, trivial⟩ trivial rfl ?_)) | (refine is_bin ?_; (first | refine al_v opx_lss ⟨rfl, rfl, trivial⟩ trivial rfl ?_ | refine al_v opx_gtr ⟨rfl, rfl, trivial⟩ trivial rfl ?_ | refine al_v (opx_add (by unfold InR; omega)) ⟨rfl, rfl, trivial⟩ trivial rfl ?_)) | (refine is_assign ?_; refine al_v (opx_assign (.raw _)) ⟨rfl, trivial⟩ trivial rfl ?_) | (refine is_bi ?_; refine al_v opx_len_sl ⟨rfl, trivial⟩ trivial rfl ?_) | refine al_nil ?_ | refine al_v (opx_cat (by first | omega | (simp only [List.length_append, List.length_cons, List.length_nil]; omega))) ⟨rfl, rfl, trivial⟩ trivial rfl ?_ | refine ad_v (opx_cat (by first | omega | (simp only [List.length_append, List.length_cons, List.length_nil]; omega))) ⟨rfl, rfl, trivial⟩ trivial rfl ?_)) | (refine is_ad ?_; (first | (refine isd_move ?_; (first | refine ad_v (opx_move (.raw _)) ⟨rfl, trivial⟩ trivial rfl ?_ | refine ad_v (opx_move (.sl _ _)) ⟨rfl, trivial⟩ trivial rfl ?_)) | (refine isd_load ?_; refine ad_v opx_ld_imm ⟨rfl, trivial⟩ trivial rfl ?_) | (refine isd_fa ?_; (first | refine ad_v opx_fa_imm0 ⟨rfl, trivial⟩ trivial rfl ?_ | refine ad_v opx_fa_imm1 ⟨rfl, trivial⟩ trivial rfl ?_)) | (refine isd_assign ?_; refine ad_v (opx_assign (.raw _)) ⟨rfl, trivial⟩ trivial rfl ?_) | (refine isd_ia ?_; refine ad_v (opx_ia_sl2 hxr (by omega)) ⟨rfl, rfl, trivial⟩ trivial rfl ?_) | refine ad_nil (by kernel_rfl) ?_ | refine al_v (opx_cat (by first | omega | (simp only [List.length_append, List.length_cons, List.length_nil]; omega))) ⟨rfl, rfl, trivial⟩ trivial rfl ?_ | refine ad_v (opx_cat (by first | omega | (simp only [List.length_append, List.length_cons, List.length_nil]; omega))) ⟨rfl, rfl, trivial⟩ trivial rfl ?_)) | (refine is_aw ?_; (first | refine aw_seq ?_ | refine aw_region ?_ | refine aw_skip ?_ | refine aw_block ?_ | (refine is_cond ?_; refine aw_cond_t rfl (by assumption) ?_) | refine aw_draw mixed ?_)) | refine thn_n ?_)
      exact ⟨k + 1, hlt, by omega, le_mk [] rfl rfl rfl rfl ⟨rfl, by rw [hs]; rfl, rfl, trivial⟩ trivial⟩
    · have d1 : decide (0 < (k : Int)) = false := decide_eq_false (by omega)
      obtain rfl : k = 0 := by omega
      have hs : jn 44 ((l.take 1).map eqt) = x.1 ++ [61] ++ x.2 := by rw [eqts_take hx]; rfl
      repeat' (first | (refine is_al ?_; (first | (refine is_move ?_; (first | refine al_v (opx_move (.raw _)) ⟨rfl, trivial⟩ trivial rfl ?_ | refine al_v (opx_move (.sl _ _)) ⟨rfl, trivial⟩ trivial rfl ?_)) | (refine is_bin ?_; (first | refine al_v opx_lss ⟨rfl, rfl, trivial⟩ trivial rfl ?_ | refine al_v opx_gtr ⟨rfl, rfl, trivial⟩ trivial rfl ?_ | refine al_v (opx_add (by unfold InR; omega)) ⟨rfl, rfl, trivial⟩ trivial rfl ?_)) | (refine is_assign ?_; refine al_v (opx_assign (.raw _)) ⟨rfl, trivial⟩ trivial rfl ?_) | (refine is_bi ?_; refine al_v opx_len_sl ⟨rfl, trivial⟩ trivial rfl ?_) | refine al_nil ?_ | refine ad_v (opx_cat (by first | omega | (simp only [List.length_append, List.length_cons, List.length_nil]; omega))) ⟨rfl, rfl, trivial⟩ trivial rfl ?_)) | (refine is_ad ?_; (first | (refine isd_move ?_; (first | refine ad_v (opx_move (.raw _)) ⟨rfl, trivial⟩ trivial rfl ?_ | refine ad_v (opx_move (.sl _ _)) ⟨rfl, trivial⟩ trivial rfl ?_)) | (refine isd_load ?_; refine ad_v opx_ld_imm ⟨rfl, trivial⟩ trivial rfl ?_) | (refine isd_fa ?_; (first | refine ad_v opx_fa_imm0 ⟨rfl, trivial⟩ trivial rfl ?_ | refine ad_v opx_fa_imm1 ⟨rfl, trivial⟩ trivial rfl ?_)) | (refine isd_assign ?_; refine ad_v (opx_assign (.raw _)) ⟨rfl, trivial⟩ trivial rfl ?_) | (refine isd_ia ?_; refine ad_v (opx_ia_sl2 hxr (by omega)) ⟨rfl, rfl, trivial⟩ trivial rfl ?_) | refine ad_nil (by kernel_rfl) ?_ | refine ad_v (opx_cat (by first | omega | (simp only [List.length_append, List.length_cons, List.length_nil]; omega))) ⟨rfl, rfl, trivial⟩ trivial rfl ?_)) | (refine is_aw ?_; (first | refine aw_seq ?_ | refine aw_region ?_ | refine aw_skip ?_ | refine aw_block ?_ | (refine is_cond ?_; (first | refine aw_cond_f rfl rfl ?_ | refine aw_cond_t rfl (by assumption) ?_)) | refine aw_draw mixed ?_)) | refine thn_n ?_)
      exact ⟨1, hlt, by omega, le_mk [] rfl rfl rfl rfl ⟨rfl, by rw [hs]; rfl, rfl, trivial⟩ trivial⟩
  · have hc1 : decide ((k : Int) < ((lbRs l).length : Int)) = false := decide_eq_false (by omega)
    rw [List.take_of_length_le hge] at hjl ⊢
    repeat' (first | (refine is_al ?_; (first | (refine is_move ?_; (first | refine al_v (opx_move (.raw _)) ⟨rfl, trivial⟩ trivial rfl ?_ | refine al_v (opx_move (.sl _ _)) ⟨rfl, trivial⟩ trivial rfl ?_)) | (refine is_bin ?_; refine al_v opx_lss ⟨rfl, rfl, trivial⟩ trivial rfl ?_) | (refine is_assign ?_; refine al_v (opx_assign (.raw _)) ⟨rfl, trivial⟩ trivial rfl ?_) | (refine is_bi ?_; refine al_v opx_len_sl ⟨rfl, trivial⟩ trivial rfl ?_) | refine al_nil ?_ | refine al_v (opx_cat (by first | omega | (simp only [List.length_append, List.length_cons, List.length_nil]; omega))) ⟨rfl, rfl, trivial⟩ trivial rfl ?_)) | (refine is_ad ?_; refine al_v (opx_cat (by first | omega | (simp only [List.length_append, List.length_cons, List.length_nil]; omega))) ⟨rfl, rfl, trivial⟩ trivial rfl ?_) | (refine is_aw ?_; (first | refine aw_seq ?_ | refine aw_region ?_ | refine aw_ret ?_ | refine aw_exit ?_ | (refine is_cond ?_; refine aw_cond_f rfl (by assumption) ?_))))
    exact ret_raw trivial rfl ⟨rfl, rfl⟩
end Go.Proofs.YtllgddednlfhfaaDoor

/-
  The exact law of the text of labels: the walks.
-/
namespace Go.Proofs.YtllgddednlfhfaaDoor
open Go.RowKit
set_option linter.unusedVariables false
set_option linter.unusedSimpArgs false
attribute [local irreducible] AL AW OpX Le AD

def szB (left : Int) (x : Lb) : Int := if left - (x.1.length : Int) < 0 then -1 else if left - (x.1.length : Int) - (x.2.length : Int) < 0 then -1 else left - (x.1.length : Int) - (x.2.length : Int)
def szLs : Int → List Lb → Int
  | left, [] => left
  | left, x :: r => if szB left x < 0 then -1 else szLs (szB left x) r
def szT (left : Int) (l : List Lb) : Int := if left - (l.length : Int) < 0 then -1 else szLs (left - (l.length : Int)) l
theorem szB_le {left : Int} {x : Lb} (h : ¬ szB left x < 0) : (x.1.length : Int) ≤ left ∧ (x.2.length : Int) ≤ left ∧ szB left x ≤ left := by
  unfold szB at h ⊢
  split at h
  · omega
  · split at h
    · omega
    · rename_i h1 h2; rw [if_neg h1, if_neg h2]; omega
theorem szLs_le : ∀ {l : List Lb} {left : Int}, ¬ szLs left l < 0 → ∀ x ∈ l, (x.1.length : Int) ≤ left ∧ (x.2.length : Int) ≤ left
  | [], _, _, x, hx => by cases hx
  | y :: r, left, h, x, hx => by
    simp only [szLs] at h
    split at h
    · omega
    · rename_i h1
      obtain ⟨b1, b2, b3⟩ := szB_le h1
      rcases List.mem_cons.1 hx with rfl | hx
      · exact ⟨b1, b2⟩
      · obtain ⟨c1, c2⟩ := szLs_le h x hx
        exact ⟨by omega, by omega⟩
theorem szT_le {left : Int} {l : List Lb} (h : ¬ szT left l < 0) (h0 : 0 ≤ left) : (l.length : Int) ≤ left ∧ ∀ x ∈ l, (x.1.length : Int) ≤ left ∧ (x.2.length : Int) ≤ left := by
  unfold szT at h
  split at h
  · omega
  · refine ⟨by omega, fun x hx => ?_⟩
    obtain ⟨c1, c2⟩ := szLs_le h x hx
    exact ⟨by omega, by omega⟩
abbrev rL (x : Lb) : AR := .agg [.c (cS x.1), .c (cS x.2)]
theorem c_szLabel (x : Lb) (left : Int) (hl : -1 ≤ left ∧ left ≤ 1048576) (h1 : x.1.length ≤ 9223372036854775807) (h2 : x.2.length ≤ 9223372036854775807) : Con Tryd.prog 26 [rL x, rI left] [] (fun rs all => rs = [rI (szB left x)] ∧ all = []) := by
  refine con_of_aw (vars := [.tmp 4]) [(0, .r (rL x)), (1, .r (rI left))] [] 0 Tryd.func26 (by kernel_rfl) rfl Tryd.ntmps26 rfl (by decide) rfl rfl rfl rfl rfl ?_; intro B M w0 ρ0 Z0
  by_cases a1 : left - (x.1.length : Int) < 0
  · have d1 : decide (left - (x.1.length : Int) < 0) = true := decide_eq_true a1
    have e : szB left x = -1 := by rw [szB, if_pos a1]
    repeat' (first | (refine is_al ?_; (first | (refine is_move ?_; refine al_v (opx_move (.raw _)) ⟨rfl, trivial⟩ trivial rfl ?_) | (refine is_bin ?_; (first | refine al_v opx_lss ⟨rfl, rfl, trivial⟩ trivial rfl ?_ | refine al_v (opx_sub (by unfold InR; omega)) ⟨rfl, rfl, trivial⟩ trivial rfl ?_)) | (refine is_load ?_; refine al_v (opx_ld_box rfl) ⟨rfl, trivial⟩ ⟨rfl, trivial⟩ rfl ?_) | (refine is_fa ?_; refine al_v opx_fa_ref ⟨rfl, trivial⟩ trivial rfl ?_) | (refine is_assign ?_; refine al_v (opx_assign (.raw _)) ⟨rfl, trivial⟩ trivial rfl ?_) | (refine is_bi ?_; refine al_v opx_len_str ⟨rfl, trivial⟩ trivial rfl ?_) | refine al_n opx_boxs ⟨rfl, trivial⟩ trivial rfl ?_ | refine al_nil ?_)) | (refine is_aw ?_; (first | refine aw_seq ?_ | refine aw_region ?_ | refine aw_ret ?_ | (refine is_cond ?_; refine aw_cond_t rfl (by assumption) ?_))) | refine thn_r ?_)
    exact ret_raw trivial rfl ⟨by rw [e], rfl⟩
  · have d1 : decide (left - (x.1.length : Int) < 0) = false := decide_eq_false a1
    by_cases a2 : left - (x.1.length : Int) - (x.2.length : Int) < 0
    · have d2 : decide (left - (x.1.length : Int) - (x.2.length : Int) < 0) = true := decide_eq_true a2
      have e : szB left x = -1 := by rw [szB, if_neg a1, if_pos a2]
      repeat' (first | (refine is_al ?_; (first | (refine is_move ?_; refine al_v (opx_move (.raw _)) ⟨rfl, trivial⟩ trivial rfl ?_) | (refine is_bin ?_; (first | refine al_v opx_lss ⟨rfl, rfl, trivial⟩ trivial rfl ?_ | refine al_v (opx_sub (by unfold InR; omega)) ⟨rfl, rfl, trivial⟩ trivial rfl ?_)) | (refine is_load ?_; refine al_v (opx_ld_box rfl) ⟨rfl, trivial⟩ ⟨rfl, trivial⟩ rfl ?_) | (refine is_fa ?_; refine al_v opx_fa_ref ⟨rfl, trivial⟩ trivial rfl ?_) | (refine is_assign ?_; refine al_v (opx_assign (.raw _)) ⟨rfl, trivial⟩ trivial rfl ?_) | (refine is_bi ?_; refine al_v opx_len_str ⟨rfl, trivial⟩ trivial rfl ?_) | refine al_n opx_boxs ⟨rfl, trivial⟩ trivial rfl ?_ | refine al_nil ?_)) | (refine is_aw ?_; (first | refine aw_seq ?_ | refine aw_region ?_ | refine aw_skip ?_ | refine aw_ret ?_ | (refine is_cond ?_; (first | refine aw_cond_t rfl (by assumption) ?_ | refine aw_cond_f rfl (by assumption) ?_)))) | refine thn_r ?_)
      exact ret_raw trivial rfl ⟨by rw [e], rfl⟩
    · have d2 : decide (left - (x.1.length : Int) - (x.2.length : Int) < 0) = false := decide_eq_false a2
      have e : szB left x = left - (x.1.length : Int) - (x.2.length : Int) := by rw [szB, if_neg a1, if_neg a2]
      repeat' (first | (refine is_al ?_; (first | (refine is_move ?_; refine al_v (opx_move (.raw _)) ⟨rfl, trivial⟩ trivial rfl ?_) | (refine is_bin ?_; (first | refine al_v opx_lss ⟨rfl, rfl, trivial⟩ trivial rfl ?_ | refine al_v (opx_sub (by unfold InR; omega)) ⟨rfl, rfl, trivial⟩ trivial rfl ?_)) | (refine is_load ?_; refine al_v (opx_ld_box rfl) ⟨rfl, trivial⟩ ⟨rfl, trivial⟩ rfl ?_) | (refine is_fa ?_; refine al_v opx_fa_ref ⟨rfl, trivial⟩ trivial rfl ?_) | (refine is_assign ?_; refine al_v (opx_assign (.raw _)) ⟨rfl, trivial⟩ trivial rfl ?_) | (refine is_bi ?_; refine al_v opx_len_str ⟨rfl, trivial⟩ trivial rfl ?_) | refine al_n opx_boxs ⟨rfl, trivial⟩ trivial rfl ?_ | refine al_nil ?_)) | (refine is_aw ?_; (first | refine aw_seq ?_ | refine aw_region ?_ | refine aw_skip ?_ | refine aw_ret ?_ | (refine is_cond ?_; refine aw_cond_f rfl (by assumption) ?_))))
      exact ret_raw trivial rfl ⟨by rw [e], rfl⟩
theorem c_szLabelS (l : List Lb) (left : Int) (hl : 0 ≤ left ∧ left ≤ 1048576) (hL : l.length ≤ 9223372036854775807) (hs : ∀ x ∈ l, x.1.length ≤ 9223372036854775807 ∧ x.2.length ≤ 9223372036854775807) : Con Tryd.prog 9 [slL l, rI left] [] (fun rs all => rs = [rI (szT left l)] ∧ all = []) := by
  have hlr := lbRs_len (xs := l)
  refine con_of_aw (vars := [.tmp 4]) [(0, .r (slL l)), (1, .r (rI left))] [] 0 Tryd.func9 (by kernel_rfl) rfl Tryd.ntmps9 rfl (by decide) rfl rfl rfl rfl rfl ?_; intro B M w0 ρ0 Z0
  by_cases a1 : left - ((lbRs l).length : Int) < 0
  · have d1 : decide (left - ((lbRs l).length : Int) < 0) = true := decide_eq_true a1
    have e : szT left l = -1 := by rw [szT, if_pos (by omega)]
    repeat' (first | (refine is_al ?_; (first | (refine is_move ?_; (first | refine al_v (opx_move (.raw _)) ⟨rfl, trivial⟩ trivial rfl ?_ | refine al_v (opx_move (.sl _ _)) ⟨rfl, trivial⟩ trivial rfl ?_)) | (refine is_bin ?_; (first | refine al_v opx_lss ⟨rfl, rfl, trivial⟩ trivial rfl ?_ | refine al_v (opx_sub (by unfold InR; omega)) ⟨rfl, rfl, trivial⟩ trivial rfl ?_)) | (refine is_assign ?_; refine al_v (opx_assign (.raw _)) ⟨rfl, trivial⟩ trivial rfl ?_) | (refine is_bi ?_; refine al_v opx_len_sl ⟨rfl, trivial⟩ trivial rfl ?_) | refine al_nil ?_)) | (refine is_aw ?_; (first | refine aw_seq ?_ | refine aw_region ?_ | refine aw_ret ?_ | (refine is_cond ?_; refine aw_cond_t rfl (by assumption) ?_))) | refine thn_r ?_)
    exact ret_raw trivial rfl ⟨by rw [e], rfl⟩
  · have d1 : decide (left - ((lbRs l).length : Int) < 0) = false := decide_eq_false a1
    have e : szT left l = szLs (left - (l.length : Int)) l := by rw [szT, if_neg (by omega)]
    repeat' (first | (refine is_al ?_; (first | (refine is_move ?_; (first | refine al_v (opx_move (.raw _)) ⟨rfl, trivial⟩ trivial rfl ?_ | refine al_v (opx_move (.sl _ _)) ⟨rfl, trivial⟩ trivial rfl ?_)) | (refine is_bin ?_; (first | refine al_v opx_lss ⟨rfl, rfl, trivial⟩ trivial rfl ?_ | refine al_v (opx_sub (by unfold InR; omega)) ⟨rfl, rfl, trivial⟩ trivial rfl ?_)) | (refine is_assign ?_; refine al_v (opx_assign (.raw _)) ⟨rfl, trivial⟩ trivial rfl ?_) | (refine is_bi ?_; refine al_v opx_len_sl ⟨rfl, trivial⟩ trivial rfl ?_) | refine al_nil ?_)) | (refine is_aw ?_; (first | refine aw_seq ?_ | refine aw_region ?_ | refine aw_skip ?_ | refine aw_block ?_ | (refine is_cond ?_; refine aw_cond_f rfl (by assumption) ?_))))
    refine aw_loop (γ := Nat × Int) (fun g => [(0, .r (slL l)), (1, .i g.2), (5, .i (g.1 : Int))]) (fun _ => []) (fun _ => 0)
      (fun g => g.1 ≤ l.length ∧ 0 ≤ g.2 ∧ g.2 ≤ 1048576 ∧ szLs g.2 (l.drop g.1) = szT left l) (fun g => l.length - g.1) (0, left - (l.length : Int)) ⟨Nat.zero_le _, by dsimp only; omega, by dsimp only; omega, e.symm⟩ (le_mk [] rfl rfl rfl rfl ⟨rfl, by rw [hlr]; rfl, rfl, trivial⟩ trivial) ?_
    rintro ⟨k, v⟩ ⟨h1, h2, h3, h4⟩
    dsimp only at h1 h2 h3 h4 ⊢
    rcases Nat.lt_or_ge k l.length with hlt | hge
    · have hc1 : decide ((k : Int) < ((lbRs l).length : Int)) = true := decide_eq_true (by omega)
      obtain ⟨x, hx⟩ : ∃ x, l[k]? = some x := ⟨_, List.getElem?_eq_getElem hlt⟩
      have hxr := lbRs_at hx
      obtain ⟨b1, b2⟩ := hs x (List.mem_of_getElem? hx)
      have hdr : l.drop k = x :: l.drop (k + 1) := by
        obtain ⟨_, rfl⟩ := List.getElem?_eq_some_iff.1 hx
        exact List.drop_eq_getElem_cons hlt
      rw [hdr] at h4
      simp only [szLs] at h4
      by_cases g1 : szB v x < 0
      · have d2 : decide (szB v x < 0) = true := decide_eq_true g1
        rw [if_pos g1] at h4
        repeat' (first | (refine is_al ?_; (first | (refine is_move ?_; (first | refine al_v (opx_move (.raw _)) ⟨rfl, trivial⟩ trivial rfl ?_ | refine al_v (opx_move (.sl _ _)) ⟨rfl, trivial⟩ trivial rfl ?_)) | (refine is_bin ?_; refine al_v opx_lss ⟨rfl, rfl, trivial⟩ trivial rfl ?_) | (refine is_load ?_; refine al_v opx_ld2_imm ⟨rfl, trivial⟩ trivial rfl ?_) | (refine is_assign ?_; refine al_v (opx_assign (.raw _)) ⟨rfl, trivial⟩ trivial rfl ?_) | (refine is_bi ?_; refine al_v opx_len_sl ⟨rfl, trivial⟩ trivial rfl ?_) | (refine is_ia ?_; refine al_v (opx_ia_sl2 hxr (by omega)) ⟨rfl, rfl, trivial⟩ trivial rfl ?_) | (refine is_call ?_; refine al_callv2 (by (repeat (first | exact .nil | refine .one rfl rfl ?_ | refine .froz rfl rfl ?_ | refine .row rfl rfl ?_ | refine .rnil rfl ?_ | refine .agg rfl (by (repeat (first | exact .nil | refine .cons (.same rfl) ?_ | refine .cons (.froz rfl) ?_ | refine .cons (.rnil) ?_ | refine .cons (.row rfl rfl) ?_)); (first | done | fail)) ?_)); (first | done | fail)) rfl (c_szLabel x v (by omega) b1 b2) rfl ?_) | refine al_nil ?_)) | (refine is_aw ?_; (first | refine aw_seq ?_ | refine aw_region ?_ | refine aw_skip ?_ | refine aw_block ?_ | refine aw_ret ?_ | (refine is_cond ?_; refine aw_cond_t rfl (by assumption) ?_))) | refine thn_r ?_ | refine inb_r ?_)
        exact ret_raw trivial rfl ⟨by rw [← h4], rfl⟩
      · have d2 : decide (szB v x < 0) = false := decide_eq_false g1
        have g2 := (szB_le g1).2.2
        rw [if_neg g1] at h4
        repeat' (first | (refine is_al ?_; (first | (refine is_move ?_; (first | refine al_v (opx_move (.raw _)) ⟨rfl, trivial⟩ trivial rfl ?_ | refine al_v (opx_move (.sl _ _)) ⟨rfl, trivial⟩ trivial rfl ?_)) | (refine is_bin ?_; (first | refine al_v opx_lss ⟨rfl, rfl, trivial⟩ trivial rfl ?_ | refine al_v (opx_add (by unfold InR; omega)) ⟨rfl, rfl, trivial⟩ trivial rfl ?_)) | (refine is_load ?_; refine al_v opx_ld2_imm ⟨rfl, trivial⟩ trivial rfl ?_) | (refine is_assign ?_; refine al_v (opx_assign (.raw _)) ⟨rfl, trivial⟩ trivial rfl ?_) | (refine is_bi ?_; refine al_v opx_len_sl ⟨rfl, trivial⟩ trivial rfl ?_) | (refine is_ia ?_; refine al_v (opx_ia_sl2 hxr (by omega)) ⟨rfl, rfl, trivial⟩ trivial rfl ?_) | (refine is_call ?_; refine al_callv2 (by (repeat (first | exact .nil | refine .one rfl rfl ?_ | refine .froz rfl rfl ?_ | refine .row rfl rfl ?_ | refine .rnil rfl ?_ | refine .agg rfl (by (repeat (first | exact .nil | refine .cons (.same rfl) ?_ | refine .cons (.froz rfl) ?_ | refine .cons (.rnil) ?_ | refine .cons (.row rfl rfl) ?_)); (first | done | fail)) ?_)); (first | done | fail)) rfl (c_szLabel x v (by omega) b1 b2) rfl ?_) | refine al_nil ?_)) | (refine is_aw ?_; (first | refine aw_seq ?_ | refine aw_region ?_ | refine aw_skip ?_ | refine aw_block ?_ | (refine is_cond ?_; (first | refine aw_cond_t rfl (by assumption) ?_ | refine aw_cond_f rfl (by assumption) ?_)))) | refine thn_n ?_)
        exact ⟨(k + 1, szB v x), ⟨hlt, by dsimp only; omega, by dsimp only; omega, h4⟩, by dsimp only; omega, le_mk [] rfl rfl rfl rfl ⟨rfl, rfl, rfl, trivial⟩ trivial⟩
    · have hc1 : decide ((k : Int) < ((lbRs l).length : Int)) = false := decide_eq_false (by omega)
      rw [List.drop_of_length_le hge] at h4
      repeat' (first | (refine is_al ?_; (first | (refine is_move ?_; (first | refine al_v (opx_move (.raw _)) ⟨rfl, trivial⟩ trivial rfl ?_ | refine al_v (opx_move (.sl _ _)) ⟨rfl, trivial⟩ trivial rfl ?_)) | (refine is_bin ?_; refine al_v opx_lss ⟨rfl, rfl, trivial⟩ trivial rfl ?_) | (refine is_assign ?_; refine al_v (opx_assign (.raw _)) ⟨rfl, trivial⟩ trivial rfl ?_) | (refine is_bi ?_; refine al_v opx_len_sl ⟨rfl, trivial⟩ trivial rfl ?_) | refine al_nil ?_)) | (refine is_aw ?_; (first | refine aw_seq ?_ | refine aw_region ?_ | refine aw_ret ?_ | refine aw_exit ?_ | (refine is_cond ?_; refine aw_cond_f rfl (by assumption) ?_))))
      exact ret_raw trivial rfl ⟨by rw [← h4]; rfl, rfl⟩
theorem c_toLabel (x : Lb) : Con Tryd.prog 31 [rL x] [] (fun rs all => rs = [rL x] ∧ all = []) := by
  refine con_of_aw (vars := [.cell 2 52]) [(0, .r (rL x))] [] 0 Tryd.func31 (by kernel_rfl) rfl Tryd.ntmps31 rfl (by decide) rfl rfl rfl rfl rfl ?_; intro B M w0 ρ0 Z0
  repeat' (first | (refine is_al ?_; (first | (refine is_load ?_; (first | refine al_v (opx_ld_box rfl) ⟨rfl, trivial⟩ ⟨rfl, trivial⟩ rfl ?_ | refine al_v opx_ld2_box ⟨rfl, trivial⟩ ⟨rfl, trivial⟩ rfl ?_)) | (refine is_fa ?_; refine al_v opx_fa_ref ⟨rfl, trivial⟩ trivial rfl ?_) | (refine is_st ?_; (first | refine al_s (opx_st1_box (by rfl)) ⟨rfl, rfl, trivial⟩ ⟨rfl, trivial⟩ ?_ | refine al_s (opx_sts_box (by rfl) (by rfl)) ⟨rfl, rfl, trivial⟩ ⟨rfl, trivial⟩ ?_)) | refine al_n opx_alloc trivial trivial rfl ?_ | refine al_n opx_boxs ⟨rfl, trivial⟩ trivial rfl ?_ | refine al_nil ?_)) | (refine is_aw ?_; (first | refine aw_seq ?_ | refine aw_region ?_ | refine aw_ret ?_)))
  exact ret_struct trivial rfl rfl (by kernel_rfl) rfl rfl ⟨rfl, rfl⟩
theorem lbRs_rep {n : Nat} : List.replicate n ([Value.string ⟨#[]⟩, Value.string ⟨#[]⟩].map CV.raw) = lbRs (List.replicate n ([], [])) := by simp only [lbRs, List.map_replicate]; rfl
theorem c_toLabelS (l : List Lb) (hL : l.length ≤ 2000000) : Con Tryd.prog 11 [slL l] [] (fun rs all => rs = [.one (.own 0)] ∧ all = [.row 2 52 (lbRs l)]) := by
  have hlen := lbRs_len (xs := l)
  refine con_of_aw (vars := [.tmp 2]) [(0, .r (slL l))] [] 0 Tryd.func11 (by kernel_rfl) rfl Tryd.ntmps11 rfl (by decide) rfl rfl rfl rfl rfl ?_; intro B M w0 ρ0 Z0
  repeat' (first | (refine is_al ?_; (first | (refine is_move ?_; refine al_v (opx_move (.sl _ _)) ⟨rfl, trivial⟩ trivial rfl ?_) | (refine is_assign ?_; (first | refine al_v (opx_assign (.raw _)) ⟨rfl, trivial⟩ trivial rfl ?_ | refine al_v (opx_assign (.own _)) ⟨rfl, trivial⟩ trivial rfl ?_)) | (refine is_bi ?_; refine al_v opx_len_sl ⟨rfl, trivial⟩ trivial rfl ?_) | refine al_nil ?_ | refine al_mkn (rows := lbRs (List.replicate l.length ([], []))) l.length lbRs_rep (by omega) rfl rfl rfl rfl (by omega) ?_)) | (refine is_ad ?_; refine al_mkn (rows := lbRs (List.replicate l.length ([], []))) l.length lbRs_rep (by omega) rfl rfl rfl rfl (by omega) ?_) | (refine is_aw ?_; (first | refine aw_seq ?_ | refine aw_region ?_ | refine aw_block ?_)))
  refine aw_loop (γ := Nat) (fun k => [(0, .r (slL l)), (3, .own 0), (4, .i (k : Int))]) (fun k => [(0, .row 2 52 (lbRs (l.take k ++ List.replicate (l.length - k) ([], []))))]) (fun _ => 1)
    (fun k => k ≤ l.length) (fun k => l.length - k) 0 (Nat.zero_le _) (le_mk [0] rfl rfl rfl rfl ⟨rfl, rfl, rfl, trivial⟩ ⟨rfl, trivial⟩) ?_
  intro k hk
  rcases Nat.lt_or_ge k l.length with hlt | hge
  · have hc : decide ((k : Int) < ((lbRs l).length : Int)) = true := decide_eq_true (by omega)
    obtain ⟨p, hp⟩ : ∃ p, l[k]? = some p := ⟨_, List.getElem?_eq_getElem hlt⟩
    have hpr := lbRs_at hp
    have hko : k < (l.take k ++ List.replicate (l.length - k) (([], []) : Lb)).length := by rw [List.length_append, List.length_take, List.length_replicate]; omega
    have hko2 : k < (lbRs (l.take k ++ List.replicate (l.length - k) (([], []) : Lb))).length := by rw [lbRs_len]; exact hko
    repeat' (first | (refine is_al ?_; (first | (refine is_move ?_; (first | refine al_v (opx_move (.raw _)) ⟨rfl, trivial⟩ trivial rfl ?_ | refine al_v (opx_move (.sl _ _)) ⟨rfl, trivial⟩ trivial rfl ?_ | refine al_v (opx_move (.own _)) ⟨rfl, trivial⟩ trivial rfl ?_)) | (refine is_bin ?_; (first | refine al_v opx_lss ⟨rfl, rfl, trivial⟩ trivial rfl ?_ | refine al_v (opx_add (by unfold InR; omega)) ⟨rfl, rfl, trivial⟩ trivial rfl ?_)) | (refine is_load ?_; refine al_v opx_ld2_imm ⟨rfl, trivial⟩ trivial rfl ?_) | (refine is_assign ?_; refine al_v (opx_assign (.raw _)) ⟨rfl, trivial⟩ trivial rfl ?_) | (refine is_bi ?_; refine al_v opx_len_sl ⟨rfl, trivial⟩ trivial rfl ?_) | (refine is_ia ?_; (first | refine al_v (opx_ia_sl2 hpr (by omega)) ⟨rfl, rfl, trivial⟩ trivial rfl ?_ | refine al_v (opx_ia_own2 hko2 (by omega)) ⟨rfl, rfl, trivial⟩ ⟨rfl, trivial⟩ rfl ?_)) | (refine is_call ?_; refine al_callF (by (repeat (first | exact .nil | refine .one rfl rfl ?_ | refine .froz rfl rfl ?_ | refine .rnil rfl ?_ | refine .agg rfl (by (repeat (first | exact .nil | refine .cons (.same rfl) ?_ | refine .cons (.froz rfl) ?_ | refine .cons (.rnil) ?_)); (first | done | fail)) ?_)); (first | done | fail)) rfl (c_toLabel p) rfl ?_) | (refine is_st ?_; refine al_stL rfl rfl rfl (by assumption) ?_) | refine al_nil ?_)) | (refine is_aw ?_; (first | refine aw_seq ?_ | refine aw_region ?_ | refine aw_skip ?_ | refine aw_block ?_ | (refine is_cond ?_; refine aw_cond_t rfl (by assumption) ?_))) | refine thn_n ?_)
    rw [take_set (z := (([], []) : Lb)) hp rfl]
    exact ⟨k + 1, hlt, by omega, le_mk [0] rfl rfl rfl rfl ⟨rfl, rfl, rfl, trivial⟩ ⟨rfl, trivial⟩⟩
  · have hc : decide ((k : Int) < ((lbRs l).length : Int)) = false := decide_eq_false (by omega)
    repeat' (first | (refine is_al ?_; (first | (refine is_move ?_; (first | refine al_v (opx_move (.raw _)) ⟨rfl, trivial⟩ trivial rfl ?_ | refine al_v (opx_move (.sl _ _)) ⟨rfl, trivial⟩ trivial rfl ?_ | refine al_v (opx_move (.own _)) ⟨rfl, trivial⟩ trivial rfl ?_)) | (refine is_bin ?_; refine al_v opx_lss ⟨rfl, rfl, trivial⟩ trivial rfl ?_) | (refine is_assign ?_; refine al_v (opx_assign (.own _)) ⟨rfl, trivial⟩ trivial rfl ?_) | (refine is_bi ?_; refine al_v opx_len_sl ⟨rfl, trivial⟩ trivial rfl ?_) | refine al_nil ?_)) | (refine is_aw ?_; (first | refine aw_seq ?_ | refine aw_region ?_ | refine aw_ret ?_ | refine aw_exit ?_ | (refine is_cond ?_; refine aw_cond_f rfl (by assumption) ?_))))
    exact ret_row trivial rfl rfl ⟨rfl, by rw [show k = l.length by omega]; simp⟩
theorem c_eqLabel (x : Lb) : Con Tryd.prog 34 [rL x, rL x] [] (fun rs all => rs = [rB true] ∧ all = []) := by
  refine con_of_aw (vars := [.tmp 4]) [(0, .r (rL x)), (1, .r (rL x))] [] 0 Tryd.func34 (by kernel_rfl) rfl Tryd.ntmps34 rfl (by decide) rfl rfl rfl rfl rfl ?_; intro B M w0 ρ0 Z0
  have n1 : (!decide (x.1 = x.1)) = false := by rw [eqD]; rfl
  have n2 : (!decide (x.2 = x.2)) = false := by rw [eqD]; rfl
  repeat' (first | (refine is_al ?_; (first | (refine is_bin ?_; refine al_v opx_sneq ⟨rfl, rfl, trivial⟩ trivial rfl ?_) | (refine is_load ?_; refine al_v (opx_ld_box rfl) ⟨rfl, trivial⟩ ⟨rfl, trivial⟩ rfl ?_) | (refine is_fa ?_; refine al_v opx_fa_ref ⟨rfl, trivial⟩ trivial rfl ?_) | (refine is_assign ?_; refine al_v (opx_assign (.raw _)) ⟨rfl, trivial⟩ trivial rfl ?_) | refine al_n opx_boxs ⟨rfl, trivial⟩ trivial rfl ?_ | refine al_nil ?_)) | (refine is_aw ?_; (first | refine aw_seq ?_ | refine aw_region ?_ | refine aw_skip ?_ | refine aw_ret ?_ | (refine is_cond ?_; refine aw_cond_f rfl (by assumption) ?_))))
  exact ret_raw trivial rfl ⟨congrArg (fun b => [rB b]) (rfl), rfl⟩
theorem c_eqLabelS (l : List Lb) (hL : l.length ≤ 2000000) : Con Tryd.prog 14 [slL l, slL l] [] (fun rs all => rs = [rB true] ∧ all = []) := by
  have hla := lbRs_len (xs := l)
  refine con_of_aw (vars := [.tmp 4]) [(0, .r (slL l)), (1, .r (slL l))] [] 0 Tryd.func14 (by kernel_rfl) rfl Tryd.ntmps14 rfl (by decide) rfl rfl rfl rfl rfl ?_; intro B M w0 ρ0 Z0
  have n0 : (!decide (((lbRs l).length : Int) = ((lbRs l).length : Int))) = false := neD _
  have n1 : (!true) = false := rfl
  repeat' (first | (refine is_al ?_; (first | (refine is_move ?_; refine al_v (opx_move (.sl _ _)) ⟨rfl, trivial⟩ trivial rfl ?_) | (refine is_bin ?_; refine al_v opx_neq ⟨rfl, rfl, trivial⟩ trivial rfl ?_) | (refine is_assign ?_; refine al_v (opx_assign (.raw _)) ⟨rfl, trivial⟩ trivial rfl ?_) | (refine is_bi ?_; refine al_v opx_len_sl ⟨rfl, trivial⟩ trivial rfl ?_) | refine al_nil ?_)) | (refine is_aw ?_; (first | refine aw_seq ?_ | refine aw_region ?_ | refine aw_skip ?_ | refine aw_block ?_ | (refine is_cond ?_; refine aw_cond_f rfl (by assumption) ?_))))
  refine aw_loop (γ := Nat) (fun k => [(0, .r (slL l)), (1, .r (slL l)), (4, .b false), (5, .i (k : Int))]) (fun _ => []) (fun _ => 0) (fun k => k ≤ l.length) (fun k => l.length - k) 0 (Nat.zero_le _) (le_mk [] rfl rfl rfl rfl ⟨rfl, rfl, rfl, rfl, trivial⟩ trivial) ?_
  intro k hk
  rcases Nat.lt_or_ge k l.length with hlt | hge
  · have hc : decide ((k : Int) < ((lbRs l).length : Int)) = true := decide_eq_true (by omega)
    obtain ⟨x, hx⟩ : ∃ x, l[k]? = some x := ⟨_, List.getElem?_eq_getElem hlt⟩
    have hxr := lbRs_at hx
    repeat' (first | (refine is_al ?_; (first | (refine is_move ?_; (first | refine al_v (opx_move (.raw _)) ⟨rfl, trivial⟩ trivial rfl ?_ | refine al_v (opx_move (.sl _ _)) ⟨rfl, trivial⟩ trivial rfl ?_)) | (refine is_bin ?_; (first | refine al_v opx_lss ⟨rfl, rfl, trivial⟩ trivial rfl ?_ | refine al_v (opx_add (by unfold InR; omega)) ⟨rfl, rfl, trivial⟩ trivial rfl ?_)) | (refine is_assign ?_; refine al_v (opx_assign (.raw _)) ⟨rfl, trivial⟩ trivial rfl ?_) | (refine is_bi ?_; refine al_v opx_len_sl ⟨rfl, trivial⟩ trivial rfl ?_) | refine al_nil ?_)) | (refine is_ad ?_; (first | (refine isd_move ?_; (first | refine ad_v (opx_move (.raw _)) ⟨rfl, trivial⟩ trivial rfl ?_ | refine ad_v (opx_move (.sl _ _)) ⟨rfl, trivial⟩ trivial rfl ?_)) | (refine isd_load ?_; refine ad_v opx_ld2_imm ⟨rfl, trivial⟩ trivial rfl ?_) | (refine isd_ia ?_; refine ad_v (opx_ia_sl2 hxr (by omega)) ⟨rfl, rfl, trivial⟩ trivial rfl ?_) | (refine isd_call ?_; refine ad_callv2 (by (repeat (first | exact .nil | refine .one rfl rfl ?_ | refine .froz rfl rfl ?_ | refine .row rfl rfl ?_ | refine .rnil rfl ?_ | refine .agg rfl (by (repeat (first | exact .nil | refine .cons (.same rfl) ?_ | refine .cons (.froz rfl) ?_ | refine .cons (.rnil) ?_ | refine .cons (.row rfl rfl) ?_)); (first | done | fail)) ?_)); (first | done | fail)) rfl (c_eqLabel x) rfl ?_) | refine ad_v opx_not ⟨rfl, trivial⟩ trivial rfl ?_ | refine ad_nil (by kernel_rfl) ?_)) | (refine is_aw ?_; (first | refine aw_seq ?_ | refine aw_region ?_ | refine aw_skip ?_ | refine aw_block ?_ | (refine is_cond ?_; (first | refine aw_cond_f rfl rfl ?_ | refine aw_cond_t rfl (by assumption) ?_)) | refine aw_draw mixed ?_)) | refine thn_n ?_)
    exact ⟨k + 1, hlt, by omega, le_mk [] rfl rfl rfl rfl ⟨rfl, rfl, rfl, rfl, trivial⟩ trivial⟩
  · have hc : decide ((k : Int) < ((lbRs l).length : Int)) = false := decide_eq_false (by omega)
    repeat' (first | (refine is_al ?_; (first | (refine is_move ?_; (first | refine al_v (opx_move (.raw _)) ⟨rfl, trivial⟩ trivial rfl ?_ | refine al_v (opx_move (.sl _ _)) ⟨rfl, trivial⟩ trivial rfl ?_)) | (refine is_bin ?_; refine al_v opx_lss ⟨rfl, rfl, trivial⟩ trivial rfl ?_) | (refine is_assign ?_; refine al_v (opx_assign (.raw _)) ⟨rfl, trivial⟩ trivial rfl ?_) | (refine is_bi ?_; refine al_v opx_len_sl ⟨rfl, trivial⟩ trivial rfl ?_) | refine al_nil ?_)) | (refine is_aw ?_; (first | refine aw_seq ?_ | refine aw_region ?_ | refine aw_ret ?_ | refine aw_exit ?_ | (refine is_cond ?_; refine aw_cond_f rfl (by assumption) ?_))))
    exact ret_raw trivial rfl ⟨congrArg (fun b => [rB b]) (rfl), rfl⟩
end Go.Proofs.YtllgddednlfhfaaDoor

/-
  Labels that are drawn: the walks.
-/
namespace Go.Proofs.YtllgddednlfhfaaDoor
open Go.RowKit
set_option linter.unusedVariables false
set_option linter.unusedSimpArgs false
attribute [local irreducible] AL AW OpX Le AD

def ofV (bs : List UInt8) (p : Int) (ss : List Str) : Str := ss.getD (pkV bs p ss.length).toNat []
theorem ofV_mem {bs : List UInt8} {p : Int} {ss : List Str} (hb : bs.length ≤ 1048576) (hp : 0 ≤ p ∧ p ≤ 1099511627776) (hn : 1 ≤ ss.length) : ofV bs p ss ∈ ss := by
  obtain ⟨h1, h2, _⟩ := pkV_ok (n := (ss.length : Int)) hb hp
  have h2 := h2 (by omega)
  rw [ofV, List.getD, List.getElem?_eq_getElem (show (pkV bs p ss.length).toNat < ss.length by omega)]
  exact List.getElem_mem _
theorem c_ofX (bs : List UInt8) (p : Int) (ss : List Str) (hb : bs.length ≤ 1048576) (hp : 0 ≤ p ∧ p ≤ 1099511627776) (hn : 1 ≤ ss.length ∧ ss.length ≤ 100) :
    Con Tryd.prog 57 [rdA, slS ss] [rdO bs p] (fun rs all => rs = [rStr (ofV bs p ss)] ∧ all = [rdO bs (p + 1)]) := by
  have hlen := stRs_len (xs := ss)
  obtain ⟨k1, k2, _⟩ := pkV_ok (n := (ss.length : Int)) hb hp
  have k2 := k2 (by omega)
  obtain ⟨k, hk⟩ : ∃ k : Nat, pkV bs p (ss.length : Int) = (k : Int) := ⟨(pkV bs p (ss.length : Int)).toNat, by omega⟩
  obtain ⟨x, hx⟩ : ∃ x, ss[k]? = some x := ⟨_, List.getElem?_eq_getElem (by omega)⟩
  have hxr := stRs_at hx
  have e : ofV bs p ss = x := by rw [ofV, hk, Int.toNat_natCast, List.getD, hx]; rfl
  refine con_of_aw (vars := [.tmp 4]) [(0, .ref 0 0), (1, .r (slS ss))] [(0, rdO bs p)] 1 Tryd.func57 (by kernel_rfl) rfl Tryd.ntmps57 rfl (by decide) rfl rfl rfl rfl rfl ?_; intro B M w0 ρ0 Z0
  rw [← hlen] at hk
  repeat' (first | (refine is_al ?_; (first | (refine is_move ?_; (first | refine al_v (opx_move (.sl _ _)) ⟨rfl, trivial⟩ trivial rfl ?_ | refine al_v (opx_move (.ref _ _)) ⟨rfl, trivial⟩ trivial rfl ?_)) | (refine is_load ?_; refine al_v opx_ld_imm ⟨rfl, trivial⟩ trivial rfl ?_) | (refine is_assign ?_; refine al_v (opx_assign (.raw _)) ⟨rfl, trivial⟩ trivial rfl ?_) | (refine is_bi ?_; refine al_v opx_len_sl ⟨rfl, trivial⟩ trivial rfl ?_) | (refine is_ia ?_; refine al_v (opx_ia_sl2 hxr (by omega)) ⟨rfl, rfl, trivial⟩ trivial rfl ?_) | (refine is_call ?_; (refine al_rdv 0 rfl rfl (by (repeat (first | exact .nil | refine .one rfl rfl ?_ | refine .tag rfl ?_ | refine .froz rfl rfl ?_ | refine .rnil rfl ?_ | refine .agg rfl (by (repeat (first | exact .nil | refine .cons (.same rfl) ?_ | refine .cons (.froz rfl) ?_ | refine .cons (.rnil) ?_)); (first | done | fail)) ?_)); (first | done | fail)) rfl (c_pickQ _ _ _ hb hp (by omega)) ?_; rintro r q ⟨rfl, rfl⟩)) | refine al_nil ?_)) | (refine is_aw ?_; (first | refine aw_seq ?_ | refine aw_region ?_ | refine aw_ret ?_)))
  exact retm_raw trivial rfl rfl rfl ⟨by rw [e], rfl⟩
theorem c_of (bs : List UInt8) (p : Int) (ss : List Str) (hb : bs.length ≤ 1048576) (hp : 0 ≤ p ∧ p ≤ 1099511627776) (hn : 1 ≤ ss.length ∧ ss.length ≤ 100) :
    Con Tryd.prog 57 [rdA, slS ss] [rdO bs p] (RdG bs (fun s : Str => [rStr s]) fun s q => q = p + 1 ∧ s ∈ ss) :=
  (c_ofX bs p ss hb hp hn).mono fun rs all ⟨h1, h2⟩ => ⟨_, _, h1, h2, rfl, rfl, ofV_mem hb hp hn.1⟩
abbrev nm8 : List Str := [[97], [104, 111, 115, 116], [106, 111, 98], [122, 111, 110, 101], [122, 122], [122, 122, 122, 122, 122], [], [122, 65]]
abbrev smL (x : Lb) : Prop := x.1.length ≤ 5 ∧ x.2.length ≤ 5 ∧ x.1 ∈ nm8
theorem c_someLabels (bs : List UInt8) (p : Int) (hb : bs.length ≤ 1048576) (hp : 0 ≤ p ∧ p ≤ 1099511627000) :
    Con Tryd.prog 45 [rdA] [rdO bs p] (RdR bs 2 52 fun rows q => ∃ l : List Lb, rows = lbRs l ∧ p ≤ q ∧ q ≤ p + 8 ∧ l.length ≤ 4 ∧ ∀ x ∈ l, smL x) := by
  refine con_of_aw (vars := [.tmp 2]) [(0, .ref 0 0)] [(0, rdO bs p)] 1 Tryd.func45 (by kernel_rfl) rfl Tryd.ntmps45 rfl (by decide) rfl rfl rfl rfl rfl ?_; intro B M w0 ρ0 Z0
  repeat' (first | (refine is_al ?_; (first | (refine is_assign ?_; (first | refine al_v (opx_assign (.raw _)) ⟨rfl, trivial⟩ trivial rfl ?_ | refine al_v (opx_assign (.sl _ _)) ⟨rfl, trivial⟩ trivial rfl ?_ | refine al_v (opx_assign (.own _)) ⟨rfl, trivial⟩ trivial rfl ?_)) | (refine is_bs ?_; refine al_n opx_lit0 trivial trivial rfl ?_) | refine al_nil ?_ | refine al_litS [[97], [104, 111, 115, 116], [106, 111, 98], [122, 111, 110, 101]] (by (repeat (first | exact .nil _ | refine .cons rfl ?_)); (first | done | fail)) rfl rfl rfl ?_)) | (refine is_ad ?_; refine al_litS [[97], [104, 111, 115, 116], [106, 111, 98], [122, 111, 110, 101]] (by (repeat (first | exact .nil _ | refine .cons rfl ?_)); (first | done | fail)) rfl rfl rfl ?_) | (refine is_aw ?_; (first | refine aw_seq ?_ | refine aw_region ?_ | refine aw_block ?_)))
  refine aw_loop (γ := List Lb × Nat × Int) (fun g => [(0, .ref 0 0), (2, .raw (.slice none 0 0)), (3, .own 1), (4, .sl 1 (stRs [[97], [104, 111, 115, 116], [106, 111, 98], [122, 111, 110, 101]])), (5, .i (g.2.1 : Int))]) (fun g => [(0, rdO bs g.2.2), (1, .row 2 52 (lbRs g.1))]) (fun _ => 2)
    (fun g => p ≤ g.2.2 ∧ g.2.2 ≤ p + 2 * g.2.1 ∧ g.1.length ≤ g.2.1 ∧ g.2.1 ≤ 4 ∧ ∀ x ∈ g.1, smL x) (fun g => 4 - g.2.1) ([], 0, p) ⟨by dsimp only; omega, by dsimp only; omega, Nat.le_refl _, Nat.zero_le _, fun x hx => by cases hx⟩ (le_mk [0, 1] rfl rfl rfl rfl ⟨rfl, rfl, rfl, rfl, rfl, trivial⟩ ⟨rfl, rfl, trivial⟩) ?_
  rintro ⟨l, k, q⟩ ⟨h1, h2, h3, h4, h5⟩
  dsimp only at h1 h2 h3 h4 h5 ⊢
  have hk4 : ((stRs [[97], [104, 111, 115, 116], [106, 111, 98], [122, 111, 110, 101]]).length : Int) = 4 := rfl
  rcases Nat.lt_or_ge k 4 with hlt | hge
  · have hc1 : decide ((k : Int) < ((stRs [[97], [104, 111, 115, 116], [106, 111, 98], [122, 111, 110, 101]]).length : Int)) = true := decide_eq_true (by omega)
    obtain ⟨nm, hn1, hn2, hn3⟩ : ∃ nm : Str, [[97], [104, 111, 115, 116], [106, 111, 98], [122, 111, 110, 101]][k]? = some nm ∧ nm.length ≤ 5 ∧ nm ∈ nm8 := by
      match k, hlt with
      | 0, _ => exact ⟨_, rfl, by decide, by decide⟩
      | 1, _ => exact ⟨_, rfl, by decide, by decide⟩
      | 2, _ => exact ⟨_, rfl, by decide, by decide⟩
      | 3, _ => exact ⟨_, rfl, by decide, by decide⟩
    have hnr := stRs_at hn1
    have hof : (ofV bs (q + 1) [[120], [121], [117, 112], [120]]).length ≤ 5 := by
      have := ofV_mem (bs := bs) (p := q + 1) (ss := [[120], [121], [117, 112], [120]]) hb (by omega) (by simp)
      simp only [List.mem_cons, List.not_mem_nil, or_false] at this
      rcases this with h | h | h | h <;> rw [h] <;> decide
    repeat' (first | (refine is_al ?_; (first | (refine is_move ?_; (first | refine al_v (opx_move (.raw _)) ⟨rfl, trivial⟩ trivial rfl ?_ | refine al_v (opx_move (.sl _ _)) ⟨rfl, trivial⟩ trivial rfl ?_ | refine al_v (opx_move (.ref _ _)) ⟨rfl, trivial⟩ trivial rfl ?_)) | (refine is_bin ?_; (first | refine al_v opx_eql ⟨rfl, rfl, trivial⟩ trivial rfl ?_ | refine al_v opx_lss ⟨rfl, rfl, trivial⟩ trivial rfl ?_ | refine al_v (opx_add (by unfold InR; omega)) ⟨rfl, rfl, trivial⟩ trivial rfl ?_)) | (refine is_assign ?_; refine al_v (opx_assign (.raw _)) ⟨rfl, trivial⟩ trivial rfl ?_) | (refine is_bi ?_; refine al_v opx_len_sl ⟨rfl, trivial⟩ trivial rfl ?_) | (refine is_call ?_; (refine al_rdv 0 rfl rfl (by (repeat (first | exact .nil | refine .one rfl rfl ?_ | refine .tag rfl ?_ | refine .froz rfl rfl ?_ | refine .rnil rfl ?_ | refine .agg rfl (by (repeat (first | exact .nil | refine .cons (.same rfl) ?_ | refine .cons (.froz rfl) ?_ | refine .cons (.rnil) ?_)); (first | done | fail)) ?_)); (first | done | fail)) rfl (c_pick _ _ _ hb (by omega) (by omega)) ?_; rintro r q2 ⟨rfl, ha1, ha2, ha3⟩)) | refine al_nil ?_ | refine ad_litS [[120], [121], [117, 112], [120]] (by (repeat (first | exact .nil _ | refine .cons rfl ?_)); (first | done | fail)) rfl rfl rfl ?_)) | (refine is_ad ?_; (first | (refine isd_move ?_; (first | refine ad_v (opx_move (.raw _)) ⟨rfl, trivial⟩ trivial rfl ?_ | refine ad_v (opx_move (.sl _ _)) ⟨rfl, trivial⟩ trivial rfl ?_ | refine ad_v (opx_move (.own _)) ⟨rfl, trivial⟩ trivial rfl ?_ | refine ad_v (opx_move (.ref _ _)) ⟨rfl, trivial⟩ trivial rfl ?_)) | (refine isd_load ?_; refine ad_v opx_ld_imm ⟨rfl, trivial⟩ trivial rfl ?_) | (refine isd_assign ?_; refine ad_v (opx_assign (.own _)) ⟨rfl, trivial⟩ trivial rfl ?_) | (refine isd_ia ?_; refine ad_v (opx_ia_sl2 hnr (by omega)) ⟨rfl, rfl, trivial⟩ trivial rfl ?_) | refine ad_v (opx_build2 (res := [_, _]) rfl) ⟨rfl, rfl, trivial⟩ trivial rfl ?_ | (refine isd_bs ?_; refine ad_pushL ⟨rfl, trivial⟩ rfl rfl rfl rfl rfl (by omega) ?_) | (refine isd_call ?_; refine ad_rd 0 rfl (by (repeat (first | exact .nil | refine .one rfl rfl ?_ | refine .tag rfl ?_ | refine .froz rfl rfl ?_ | refine .rnil rfl ?_)); (first | done | fail)) rfl (c_ofX _ _ _ hb (by omega) (by simp)) rfl ?_) | refine ad_nil (by kernel_rfl) ?_ | refine ad_litS [[120], [121], [117, 112], [120]] (by (repeat (first | exact .nil _ | refine .cons rfl ?_)); (first | done | fail)) rfl rfl rfl ?_)) | (refine is_aw ?_; (first | refine aw_seq ?_ | refine aw_region ?_ | refine aw_skip ?_ | refine aw_block ?_ | (refine is_cond ?_; (first | refine aw_cond_t rfl (by assumption) ?_ | (refine aw_cond rfl ?_ ?_ <;> ((intro hgd; try exact absurd hgd (by decide)); (try (have hz := hgd; simp only [decide_eq_true_eq, decide_eq_false_iff_not, Bool.not_eq_true', Bool.not_eq_false', Bool.not_true, Bool.not_false, beq_iff_eq, Int.not_le, Int.not_lt] at hz)); (try (exfalso; omega)))))) | refine aw_draw mixed ?_)) | refine thn_n ?_)
    · exact ⟨(l ++ [(nm, ofV bs (q + 1) [[120], [121], [117, 112], [120]])], k + 1, q + 1 + 1), ⟨(by first | omega | (dsimp only; omega) | (simp only [List.length_append, List.length_cons, List.length_nil]; omega) | (simp; omega)), (by first | omega | (dsimp only; omega) | (simp only [List.length_append, List.length_cons, List.length_nil]; omega) | (simp; omega)), (by first | omega | (dsimp only; omega) | (simp only [List.length_append, List.length_cons, List.length_nil]; omega) | (simp; omega)), (by first | omega | (dsimp only; omega) | (simp only [List.length_append, List.length_cons, List.length_nil]; omega) | (simp; omega)), all_snoc h5 ⟨hn2, hof, hn3⟩⟩, (by first | omega | (dsimp only; omega) | (simp only [List.length_append, List.length_cons, List.length_nil]; omega) | (simp; omega)), le_mk [0, _] rfl rfl rfl rfl ⟨rfl, rfl, rfl, rfl, rfl, trivial⟩ ⟨rfl, rfl, trivial⟩⟩
    · exact ⟨(l, k + 1, q + 1), ⟨(by first | omega | (dsimp only; omega) | (simp only [List.length_append, List.length_cons, List.length_nil]; omega) | (simp; omega)), (by first | omega | (dsimp only; omega) | (simp only [List.length_append, List.length_cons, List.length_nil]; omega) | (simp; omega)), (by first | omega | (dsimp only; omega) | (simp only [List.length_append, List.length_cons, List.length_nil]; omega) | (simp; omega)), (by first | omega | (dsimp only; omega) | (simp only [List.length_append, List.length_cons, List.length_nil]; omega) | (simp; omega)), h5⟩, (by first | omega | (dsimp only; omega) | (simp only [List.length_append, List.length_cons, List.length_nil]; omega) | (simp; omega)), le_mk [0, 1] rfl rfl rfl rfl ⟨rfl, rfl, rfl, rfl, rfl, trivial⟩ ⟨rfl, rfl, trivial⟩⟩
  · have hc1 : decide ((k : Int) < ((stRs [[97], [104, 111, 115, 116], [106, 111, 98], [122, 111, 110, 101]]).length : Int)) = false := decide_eq_false (by omega)
    repeat' (first | (refine is_al ?_; (first | (refine is_move ?_; (first | refine al_v (opx_move (.raw _)) ⟨rfl, trivial⟩ trivial rfl ?_ | refine al_v (opx_move (.sl _ _)) ⟨rfl, trivial⟩ trivial rfl ?_ | refine al_v (opx_move (.own _)) ⟨rfl, trivial⟩ trivial rfl ?_)) | (refine is_bin ?_; refine al_v opx_lss ⟨rfl, rfl, trivial⟩ trivial rfl ?_) | (refine is_assign ?_; refine al_v (opx_assign (.own _)) ⟨rfl, trivial⟩ trivial rfl ?_) | (refine is_bi ?_; refine al_v opx_len_sl ⟨rfl, trivial⟩ trivial rfl ?_) | refine al_nil ?_)) | (refine is_aw ?_; (first | refine aw_seq ?_ | refine aw_region ?_ | refine aw_ret ?_ | refine aw_exit ?_ | (refine is_cond ?_; refine aw_cond_f rfl (by assumption) ?_))))
    exact retm_row trivial rfl rfl rfl rfl rfl ⟨_, _, rfl, rfl, l, rfl, by omega, by omega, by omega, h5⟩
theorem c_anyLabels (bs : List UInt8) (p : Int) (hb : bs.length ≤ 1048576) (hp : 0 ≤ p ∧ p ≤ 1099511626000) :
    Con Tryd.prog 36 [rdA] [rdO bs p] (RdR bs 2 52 fun rows q => ∃ l : List Lb, rows = lbRs l ∧ p ≤ q ∧ q ≤ p + 20 ∧ l.length ≤ 5 ∧ ∀ x ∈ l, smL x) := by
  refine con_of_aw (vars := [.tmp 2]) [(0, .ref 0 0)] [(0, rdO bs p)] 1 Tryd.func36 (by kernel_rfl) rfl Tryd.ntmps36 rfl (by decide) rfl rfl rfl rfl rfl ?_; intro B M w0 ρ0 Z0
  have m1 : ∀ s ∈ ([[97], [122, 122], [122, 122, 122, 122, 122], [], [122, 65]] : List Str), s.length ≤ 5 ∧ s ∈ nm8 := by decide
  have m2 : ∀ s ∈ ([[120], [], [120, 120, 120, 120, 120], [49]] : List Str), s.length ≤ 5 := by decide
  repeat' (first | (refine is_al ?_; (first | (refine is_move ?_; (first | refine al_v (opx_move (.own _)) ⟨rfl, trivial⟩ trivial rfl ?_ | refine al_v (opx_move (.ref _ _)) ⟨rfl, trivial⟩ trivial rfl ?_)) | (refine is_bin ?_; refine al_v opx_eql ⟨rfl, rfl, trivial⟩ trivial rfl ?_) | (refine is_assign ?_; (first | refine al_v (opx_assign (.raw _)) ⟨rfl, trivial⟩ trivial rfl ?_ | refine al_v (opx_assign (.own _)) ⟨rfl, trivial⟩ trivial rfl ?_)) | (refine is_call ?_; (first | (refine al_rdr 0 rfl rfl (by (repeat (first | exact .nil | refine .one rfl rfl ?_ | refine .tag rfl ?_ | refine .froz rfl rfl ?_ | refine .rnil rfl ?_ | refine .agg rfl (by (repeat (first | exact .nil | refine .cons (.same rfl) ?_ | refine .cons (.froz rfl) ?_ | refine .cons (.rnil) ?_)); (first | done | fail)) ?_)); (first | done | fail)) rfl (c_someLabels _ _ hb (by omega)) ?_; rintro _ q1 ⟨l, rfl, h1, h2, h3, h4⟩) | (refine al_rdv 0 rfl rfl (by (repeat (first | exact .nil | refine .one rfl rfl ?_ | refine .tag rfl ?_ | refine .froz rfl rfl ?_ | refine .rnil rfl ?_ | refine .agg rfl (by (repeat (first | exact .nil | refine .cons (.same rfl) ?_ | refine .cons (.froz rfl) ?_ | refine .cons (.rnil) ?_)); (first | done | fail)) ?_)); (first | done | fail)) rfl (c_pick _ _ _ hb (by omega) (by omega)) ?_; rintro r q2 ⟨rfl, ha1, ha2, ha3⟩) | (refine al_rdg 0 rfl rfl (by (repeat (first | exact .nil | refine .one rfl rfl ?_ | refine .tag rfl ?_ | refine .froz rfl rfl ?_ | refine .rnil rfl ?_ | refine .agg rfl (by (repeat (first | exact .nil | refine .cons (.same rfl) ?_ | refine .cons (.froz rfl) ?_ | refine .cons (.rnil) ?_)); (first | done | fail)) ?_)); (first | done | fail)) rfl (c_of _ _ _ hb (by omega) (by simp)) ?_; rintro s q3 ⟨rfl, hs⟩))) | refine al_v (opx_build2 (res := [_, _]) rfl) ⟨rfl, rfl, trivial⟩ trivial rfl ?_ | (refine is_bs ?_; refine al_pushL ⟨rfl, trivial⟩ rfl rfl rfl rfl rfl (by omega) ?_) | refine al_nil ?_ | refine al_litS [[97], [122, 122], [122, 122, 122, 122, 122], [], [122, 65]] (by (repeat (first | exact .nil _ | refine .cons rfl ?_)); (first | done | fail)) rfl rfl rfl ?_ | refine al_litS [[120], [], [120, 120, 120, 120, 120], [49]] (by (repeat (first | exact .nil _ | refine .cons rfl ?_)); (first | done | fail)) rfl rfl rfl ?_)) | (refine is_ad ?_; (first | refine al_litS [[97], [122, 122], [122, 122, 122, 122, 122], [], [122, 65]] (by (repeat (first | exact .nil _ | refine .cons rfl ?_)); (first | done | fail)) rfl rfl rfl ?_ | refine al_litS [[120], [], [120, 120, 120, 120, 120], [49]] (by (repeat (first | exact .nil _ | refine .cons rfl ?_)); (first | done | fail)) rfl rfl rfl ?_)) | (refine is_aw ?_; (first | refine aw_seq ?_ | refine aw_region ?_ | refine aw_skip ?_ | refine aw_ret ?_ | (refine is_cond ?_; (refine aw_cond rfl ?_ ?_ <;> ((intro hgd; try exact absurd hgd (by decide)); (try (have hz := hgd; simp only [decide_eq_true_eq, decide_eq_false_iff_not, Bool.not_eq_true', Bool.not_eq_false', Bool.not_true, Bool.not_false, beq_iff_eq, Int.not_le, Int.not_lt] at hz)); (try (exfalso; omega))))))))
  · exact retm_row trivial rfl rfl rfl rfl rfl ⟨_, _, rfl, rfl, _, rfl, by omega, by omega, by rw [List.length_append, List.length_singleton]; omega, all_snoc h4 ⟨(m1 _ (by assumption)).1, m2 _ (by assumption), (m1 _ (by assumption)).2⟩⟩
  · exact retm_row trivial rfl rfl rfl rfl rfl ⟨_, _, rfl, rfl, l, rfl, by omega, by omega, by omega, h4⟩
/-! ### the law on signs -/
theorem txt_count {l : List Lb} (h : VL l) : (txt l).count 61 = l.length := by
  have hw : ∀ {s : Str}, vw s → s.count 61 = 0 := fun hs => List.count_eq_zero.2 (vw_not hs (by decide))
  have hj : ∀ {m : List Lb}, (∀ x ∈ m, vw x.1 ∧ vw x.2) → (jn 44 (m.map eqt)).count 61 = m.length := by
    intro m
    induction m with
    | nil => intro _; rfl
    | cons x r ih =>
      intro hm
      have hx := hm x (.head _)
      have he : (eqt x).count 61 = 1 := by rw [eqt, List.count_append, hw hx.1, List.count_cons, hw hx.2]; rfl
      cases r with
      | nil => exact he
      | cons y r =>
        have ih := ih (fun z hz => hm z (.tail _ hz))
        rw [List.map_cons, jn_cons (by simp), List.count_append, he, List.count_cons, ih]
        simp; omega
  rw [txt, List.count_cons, List.count_append, hj (fun x hx => VL_mem h hx)]
  rfl
theorem count_take {s : Str} {k : Nat} {c a : UInt8} (h : s[k]? = some c) : (s.take (k + 1)).count a = (s.take k).count a + if c = a then 1 else 0 := by
  rw [List.take_add_one, h, List.count_append]
  simp [List.count_cons]
theorem txt_len {l : List Lb} (h : VL l) : (txt l).length ≤ 42 := by
  have := VL_jn h l.length
  rw [List.take_length] at this
  simp [txt]; omega
end Go.Proofs.YtllgddednlfhfaaDoor

/-
  Parsing labels: the program's walk.
-/
namespace Go.Proofs.YtllgddednlfhfaaDoor
open Go.RowKit
set_option linter.unusedVariables false
set_option linter.unusedSimpArgs false
attribute [local irreducible] AL AW OpX Le AD

theorem ins_mk {x : Str} : ins (123 :: (x ++ [125])) = x := by
  unfold ins
  rw [List.length_cons, List.length_append, List.length_singleton, Nat.add_sub_cancel, List.take_succ_cons, List.drop_succ_cons, List.drop_zero, List.take_left']
  rfl
/-- A part without an equals sign, or a fifth part: no labels have the text. -/
theorem no_part {s x : Str} {l : List Lb} {part : Str} {ps : List Str} (hs : ins s = x) (hi : x ≠ []) (h : spl 44 x = l.map eqt ++ part :: ps) (hb : (61 : UInt8) ∉ part ∨ l.length = 4) : ∀ m, ¬ IsT s m := by
  intro m hm
  obtain ⟨h1, h2⟩ := IsT_parts hm (by rw [hs]; exact hi)
  rw [hs, h] at h1
  rcases hb with hb | hb
  · have : part ∈ m.map eqt := by rw [← h1]; simp
    obtain ⟨x, _, rfl⟩ := List.mem_map.1 this
    exact hb (by simp [eqt])
  · have := congrArg List.length h1
    simp only [List.length_append, List.length_map, List.length_cons] at this
    have := h2.1
    omega
theorem no_valid {s x : Str} {l : List Lb} (hs : ins s = x) (hi : x ≠ []) (h : spl 44 x = l.map eqt) (hn : ∀ y ∈ l, (61 : UInt8) ∉ y.1) (hv : ¬ VL l) : ∀ m, ¬ IsT s m := by
  intro m hm
  obtain ⟨h1, h2⟩ := IsT_parts hm (by rw [hs]; exact hi)
  rw [hs, h] at h1
  rw [eqts_inj hn (VL_eq h2) h1] at hv
  exact hv h2
theorem cut_comma (rest : Str) (h : BIG rest.length) : ∃ (part rest' : Str) (more : Bool), Con Tryd.prog 52 [rStr rest, rStr [44]] [] (fun rs all => rs = [rStr part, rStr rest', rB more] ∧ all = []) ∧
    spl 44 rest = part :: (if more = true then spl 44 rest' else []) ∧ part.length ≤ rest.length ∧ rest'.length ≤ rest.length ∧ (more = true → rest'.length < rest.length) := by
  by_cases hc : (44 : UInt8) ∈ rest
  · obtain ⟨x, r, rfl, hx⟩ := cut_at hc
    have hl : (x ++ 44 :: r).length = x.length + (r.length + 1) := by rw [List.length_append, List.length_cons]
    exact ⟨x, r, true, c_Cut_t x r 44 hx (by unfold BIG at h; omega), by rw [spl_cut hx]; rfl, by omega, by omega, fun _ => by omega⟩
  · exact ⟨rest, [], false, c_Cut_f rest 44 hc, by rw [spl_none hc]; rfl, Nat.le_refl _, Nat.zero_le _, fun h => by cases h⟩
/-- How far the reading is. -/
def RdP (x : Str) (l : List Lb) (rest : Str) (more : Bool) : Prop :=
  ((x = [] ∧ l = [] ∧ more = false) ∨ (x ≠ [] ∧ spl 44 x = l.map eqt ++ (if more = true then spl 44 rest else []))) ∧ (∀ y ∈ l, (61 : UInt8) ∉ y.1) ∧ (∀ y ∈ l, y.1.length ≤ x.length ∧ y.2.length ≤ x.length) ∧ l.length ≤ 4 ∧ rest.length ≤ x.length
theorem prs_nil {s : Str} (h : ¬ ∃ x, s = 123 :: (x ++ [125])) : ∀ l, ¬ IsT s l := fun l hl => h ⟨_, IsT_shape hl⟩
set_option maxHeartbeats 4000000 in
theorem c_PL1 (x : Str) (hX : x.length ≤ 8000000000000000000) : Con Tryd.prog 24 [rStr (123 :: (x ++ [125]))] [] (fun rs all => rs = [.one (.own 0), rB (prsB (123 :: (x ++ [125])))] ∧ all = [.row 2 52 (lbRs (prsL (123 :: (x ++ [125]))))]) := by
  have n1 : (!true) = false := rfl
  have n2 : (!false) = true := rfl
  refine con_of_aw (vars := [.tmp 2, .tmp 3]) [(0, .r (rStr (123 :: (x ++ [125]))))] [] 0 Tryd.func24 (by kernel_rfl) rfl Tryd.ntmps24 rfl (by decide) rfl rfl rfl rfl rfl ?_; intro B M w0 ρ0 Z0
  repeat' (first | (refine is_al ?_; (first | (refine is_gd ?_; refine al_on rfl rfl rfl (by assumption) ?_) | (refine is_move ?_; (first | refine al_v (opx_move (.raw _)) ⟨rfl, trivial⟩ trivial rfl ?_ | refine al_v (opx_move (.tup _)) ⟨rfl, trivial⟩ trivial rfl ?_)) | (refine is_bin ?_; refine al_v opx_sneq ⟨rfl, rfl, trivial⟩ trivial rfl ?_) | (refine is_assign ?_; refine al_v (opx_assign (.raw _)) ⟨rfl, trivial⟩ trivial rfl ?_) | (refine is_pick ?_; refine al_v (opx_pick_f (.raw _) rfl) ⟨rfl, rfl, trivial⟩ trivial rfl ?_) | (refine is_call ?_; (first | refine al_callF (by (repeat (first | exact .nil | refine .one rfl rfl ?_ | refine .froz rfl rfl ?_ | refine .rnil rfl ?_ | refine .agg rfl (by (repeat (first | exact .nil | refine .cons (.same rfl) ?_ | refine .cons (.froz rfl) ?_ | refine .cons (.rnil) ?_)); (first | done | fail)) ?_)); (first | done | fail)) rfl (c_CutPrefix_t 123 (x ++ [125])) rfl ?_ | refine al_callF (by (repeat (first | exact .nil | refine .one rfl rfl ?_ | refine .froz rfl rfl ?_ | refine .rnil rfl ?_ | refine .agg rfl (by (repeat (first | exact .nil | refine .cons (.same rfl) ?_ | refine .cons (.froz rfl) ?_ | refine .cons (.rnil) ?_)); (first | done | fail)) ?_)); (first | done | fail)) rfl (c_CutSuffix_t 125 x (by omega)) rfl ?_)) | refine al_v opx_not ⟨rfl, trivial⟩ trivial rfl ?_ | refine al_v (opx_extract _ rfl) ⟨rfl, trivial⟩ trivial rfl ?_ | refine al_nil ?_)) | (refine is_aw ?_; (first | refine aw_seq ?_ | refine aw_region ?_ | refine aw_skip ?_ | refine aw_block ?_ | (refine is_cond ?_; refine aw_cond_f rfl rfl ?_))))
  refine aw_le (le_ownNil 7 2 52 rfl) ?_
  refine aw_loop (γ := List Lb × Str × Bool) (fun g => [(7, .own 0), (8, .str g.2.1), (9, .b g.2.2)]) (fun g => [(0, .row 2 52 (lbRs g.1))]) (fun _ => 1)
    (fun g => RdP x g.1 g.2.1 g.2.2) (fun g => if g.2.2 = true then g.2.1.length + 1 else 0) ([], x, !decide (x = [])) ⟨by
      by_cases h : x = []
      · exact .inl ⟨h, rfl, by rw [decide_eq_true h]; rfl⟩
      · exact .inr ⟨h, by rw [decide_eq_false h]; rfl⟩, fun y hy => (by cases hy), fun y hy => (by cases hy), Nat.zero_le _, Nat.le_refl _⟩ (le_mk [0] rfl rfl rfl rfl ⟨rfl, rfl, rfl, trivial⟩ ⟨rfl, trivial⟩) ?_
  rintro ⟨l, rest, more⟩ ⟨h1, h2, h3, h4, h5⟩
  dsimp only at h1 h2 h3 h4 h5 ⊢
  have hlr := lbRs_len (xs := l)
  cases more with
  | true =>
    obtain ⟨hx0, hsp⟩ : x ≠ [] ∧ spl 44 x = l.map eqt ++ spl 44 rest := by
      rcases h1 with ⟨_, _, h⟩ | h
      · cases h
      · exact h
    obtain ⟨part, rest', more', hcut, hsp2, p1, p2, p3⟩ := cut_comma rest (by unfold BIG; omega)
    rw [hsp2] at hsp
    by_cases he : (61 : UInt8) ∈ part
    · obtain ⟨nm, v, rfl, hn⟩ := cut_at he
      have hpl : (nm ++ 61 :: v).length = nm.length + (v.length + 1) := by rw [List.length_append, List.length_cons]
      have hcut2 := c_Cut_t nm v 61 hn (by omega)
      by_cases h44 : l.length = 4
      · have d1 : decide (((lbRs l).length : Int) = 4) = true := decide_eq_true (by omega)
        obtain ⟨f1, f2⟩ := prs_f (no_part ins_mk hx0 hsp (.inr h44))
        repeat' (first | (refine is_al ?_; (first | (refine is_gd ?_; refine al_on rfl rfl rfl (by assumption) ?_) | (refine is_move ?_; (first | refine al_v (opx_move (.raw _)) ⟨rfl, trivial⟩ trivial rfl ?_ | refine al_v (opx_move (.own _)) ⟨rfl, trivial⟩ trivial rfl ?_ | refine al_v (opx_move (.tup _)) ⟨rfl, trivial⟩ trivial rfl ?_)) | (refine is_bin ?_; refine al_v opx_eql ⟨rfl, rfl, trivial⟩ trivial rfl ?_) | (refine is_assign ?_; refine al_v (opx_assign (.raw _)) ⟨rfl, trivial⟩ trivial rfl ?_) | (refine is_pick ?_; refine al_v (opx_pick_f (.raw _) rfl) ⟨rfl, rfl, trivial⟩ trivial rfl ?_) | (refine is_bi ?_; refine al_v opx_len_own ⟨rfl, trivial⟩ ⟨rfl, trivial⟩ rfl ?_) | (refine is_call ?_; (first | refine al_callF (by (repeat (first | exact .nil | refine .one rfl rfl ?_ | refine .froz rfl rfl ?_ | refine .rnil rfl ?_ | refine .agg rfl (by (repeat (first | exact .nil | refine .cons (.same rfl) ?_ | refine .cons (.froz rfl) ?_ | refine .cons (.rnil) ?_)); (first | done | fail)) ?_)); (first | done | fail)) rfl (hcut) rfl ?_ | refine al_callF (by (repeat (first | exact .nil | refine .one rfl rfl ?_ | refine .froz rfl rfl ?_ | refine .rnil rfl ?_ | refine .agg rfl (by (repeat (first | exact .nil | refine .cons (.same rfl) ?_ | refine .cons (.froz rfl) ?_ | refine .cons (.rnil) ?_)); (first | done | fail)) ?_)); (first | done | fail)) rfl (hcut2) rfl ?_)) | refine al_v opx_not ⟨rfl, trivial⟩ trivial rfl ?_ | refine al_v (opx_extract _ rfl) ⟨rfl, trivial⟩ trivial rfl ?_ | refine al_nil ?_)) | (refine is_aw ?_; (first | refine aw_seq ?_ | refine aw_region ?_ | refine aw_skip ?_ | refine aw_block ?_ | (refine is_cond ?_; (first | refine aw_cond_t rfl rfl ?_ | refine aw_cond_t rfl (by assumption) ?_)))) | refine thn_n ?_)
        refine aw_le (le_ownNil 2 2 52 rfl) ?_
        repeat' (first | (refine is_aw ?_; refine aw_ret ?_) | refine thn_r ?_ | refine inb_r ?_)
        exact ret_row_raw trivial rfl rfl rfl ⟨by rw [f1], by rw [f2]; rfl⟩
      · have d1 : decide (((lbRs l).length : Int) = 4) = false := decide_eq_false (by omega)
        repeat' (first | (refine is_al ?_; (first | (refine is_gd ?_; refine al_on rfl rfl rfl (by assumption) ?_) | (refine is_move ?_; (first | refine al_v (opx_move (.raw _)) ⟨rfl, trivial⟩ trivial rfl ?_ | refine al_v (opx_move (.own _)) ⟨rfl, trivial⟩ trivial rfl ?_ | refine al_v (opx_move (.tup _)) ⟨rfl, trivial⟩ trivial rfl ?_)) | (refine is_bin ?_; refine al_v opx_eql ⟨rfl, rfl, trivial⟩ trivial rfl ?_) | (refine is_assign ?_; (first | refine al_v (opx_assign (.raw _)) ⟨rfl, trivial⟩ trivial rfl ?_ | refine al_v (opx_assign (.own _)) ⟨rfl, trivial⟩ trivial rfl ?_)) | (refine is_pick ?_; refine al_v (opx_pick_f (.raw _) rfl) ⟨rfl, rfl, trivial⟩ trivial rfl ?_) | (refine is_bi ?_; refine al_v opx_len_own ⟨rfl, trivial⟩ ⟨rfl, trivial⟩ rfl ?_) | (refine is_call ?_; (first | refine al_callF (by (repeat (first | exact .nil | refine .one rfl rfl ?_ | refine .froz rfl rfl ?_ | refine .rnil rfl ?_ | refine .agg rfl (by (repeat (first | exact .nil | refine .cons (.same rfl) ?_ | refine .cons (.froz rfl) ?_ | refine .cons (.rnil) ?_)); (first | done | fail)) ?_)); (first | done | fail)) rfl (hcut) rfl ?_ | refine al_callF (by (repeat (first | exact .nil | refine .one rfl rfl ?_ | refine .froz rfl rfl ?_ | refine .rnil rfl ?_ | refine .agg rfl (by (repeat (first | exact .nil | refine .cons (.same rfl) ?_ | refine .cons (.froz rfl) ?_ | refine .cons (.rnil) ?_)); (first | done | fail)) ?_)); (first | done | fail)) rfl (hcut2) rfl ?_)) | refine al_v opx_not ⟨rfl, trivial⟩ trivial rfl ?_ | refine al_v (opx_extract _ rfl) ⟨rfl, trivial⟩ trivial rfl ?_ | refine al_v (opx_build2 (res := [_, _]) rfl) ⟨rfl, rfl, trivial⟩ trivial rfl ?_ | (refine is_bs ?_; refine al_pushL ⟨rfl, trivial⟩ rfl rfl rfl rfl rfl (by omega) ?_) | refine al_nil ?_)) | (refine is_aw ?_; (first | refine aw_seq ?_ | refine aw_region ?_ | refine aw_skip ?_ | refine aw_block ?_ | (refine is_cond ?_; (first | refine aw_cond_t rfl rfl ?_ | refine aw_cond_f rfl (by assumption) ?_)))) | refine thn_n ?_ | refine inb_n ?_)
        refine ⟨(l ++ [(nm, v)], rest', more'), ⟨.inr ⟨hx0, by rw [hsp, List.map_append, List.append_assoc]; rfl⟩, all_snoc h2 hn, all_snoc h3 ⟨by dsimp only; omega, by dsimp only; omega⟩, by rw [List.length_append, List.length_singleton]; omega, by dsimp only; omega⟩, ?_, le_mk [_] rfl rfl rfl rfl ⟨rfl, rfl, rfl, trivial⟩ ⟨rfl, trivial⟩⟩
        dsimp only
        cases more' with
        | true => have := p3 rfl; simp only [if_true]; omega
        | false => simp
    · have hcut2 := c_Cut_f part 61 he
      obtain ⟨f1, f2⟩ := prs_f (no_part ins_mk hx0 hsp (.inl he))
      repeat' (first | (refine is_al ?_; (first | (refine is_gd ?_; refine al_off rfl rfl rfl (by assumption) rfl ?_) | (refine is_move ?_; (first | refine al_v (opx_move (.raw _)) ⟨rfl, trivial⟩ trivial rfl ?_ | refine al_v (opx_move (.tup _)) ⟨rfl, trivial⟩ trivial rfl ?_)) | (refine is_assign ?_; refine al_v (opx_assign (.raw _)) ⟨rfl, trivial⟩ trivial rfl ?_) | (refine is_pick ?_; refine al_v (opx_pick_t (.raw _) rfl) ⟨rfl, rfl, trivial⟩ trivial rfl ?_) | (refine is_call ?_; (first | refine al_callF (by (repeat (first | exact .nil | refine .one rfl rfl ?_ | refine .froz rfl rfl ?_ | refine .rnil rfl ?_ | refine .agg rfl (by (repeat (first | exact .nil | refine .cons (.same rfl) ?_ | refine .cons (.froz rfl) ?_ | refine .cons (.rnil) ?_)); (first | done | fail)) ?_)); (first | done | fail)) rfl (hcut) rfl ?_ | refine al_callF (by (repeat (first | exact .nil | refine .one rfl rfl ?_ | refine .froz rfl rfl ?_ | refine .rnil rfl ?_ | refine .agg rfl (by (repeat (first | exact .nil | refine .cons (.same rfl) ?_ | refine .cons (.froz rfl) ?_ | refine .cons (.rnil) ?_)); (first | done | fail)) ?_)); (first | done | fail)) rfl (hcut2) rfl ?_)) | refine al_v opx_not ⟨rfl, trivial⟩ trivial rfl ?_ | refine al_v (opx_extract _ rfl) ⟨rfl, trivial⟩ trivial rfl ?_ | refine al_nil ?_)) | (refine is_aw ?_; (first | refine aw_seq ?_ | refine aw_region ?_ | refine aw_skip ?_ | refine aw_block ?_ | (refine is_cond ?_; refine aw_cond_t rfl rfl ?_))) | refine thn_n ?_)
      refine aw_le (le_ownNil 2 2 52 rfl) ?_
      repeat' (first | (refine is_aw ?_; refine aw_ret ?_) | refine thn_r ?_ | refine inb_r ?_)
      exact ret_row_raw trivial rfl rfl rfl ⟨by rw [f1], by rw [f2]; rfl⟩
  | false =>
    have hcv := c_ValidLabels l (fun y hy => by have := h3 y hy; exact ⟨by unfold BIG; omega, by unfold BIG; omega⟩) (by unfold BIG; omega)
    cases hv : vlB l
    · rw [hv] at hcv
      have hno : ∀ m, ¬ IsT (123 :: (x ++ [125])) m := by
        rcases h1 with ⟨_, h, _⟩ | ⟨h6, h7⟩
        · subst h
          exact absurd IsT_nil.1 (vlB_of_f hv)
        · exact no_valid ins_mk h6 (by rw [h7]; simp) h2 (vlB_of_f hv)
      obtain ⟨f1, f2⟩ := prs_f hno
      repeat' (first | (refine is_al ?_; (first | (refine is_move ?_; (first | refine al_v (opx_move (.raw _)) ⟨rfl, trivial⟩ trivial rfl ?_ | refine al_v (opx_move (.own _)) ⟨rfl, trivial⟩ trivial rfl ?_)) | (refine is_assign ?_; refine al_v (opx_assign (.raw _)) ⟨rfl, trivial⟩ trivial rfl ?_) | (refine is_call ?_; refine al_callv2 (by (repeat (first | exact .nil | refine .one rfl rfl ?_ | refine .froz rfl rfl ?_ | refine .row rfl rfl ?_ | refine .rnil rfl ?_ | refine .agg rfl (by (repeat (first | exact .nil | refine .cons (.same rfl) ?_ | refine .cons (.froz rfl) ?_ | refine .cons (.rnil) ?_ | refine .cons (.row rfl rfl) ?_)); (first | done | fail)) ?_)); (first | done | fail)) rfl (hcv) rfl ?_) | refine al_v opx_not ⟨rfl, trivial⟩ trivial rfl ?_ | refine al_nil ?_)) | (refine is_aw ?_; (first | refine aw_seq ?_ | refine aw_region ?_ | refine aw_exit ?_ | (refine is_cond ?_; (first | refine aw_cond_t rfl rfl ?_ | refine aw_cond_f rfl rfl ?_)))) | refine thn_n ?_)
      refine aw_le (le_ownNil 2 2 52 rfl) ?_
      repeat' (first | (refine is_aw ?_; refine aw_ret ?_) | refine thn_r ?_)
      exact ret_row_raw trivial rfl rfl rfl ⟨by rw [f1], by rw [f2]; rfl⟩
    · rw [hv] at hcv
      have hyes : IsT (123 :: (x ++ [125])) l := by
        rcases h1 with ⟨h6, h, _⟩ | ⟨h6, h7⟩
        · subst h h6
          exact IsT_nil
        · exact IsT_mk (by rw [ins_mk]) (by rw [ins_mk]; exact h6) (by rw [ins_mk, h7]; simp) (vlB_of hv)
      obtain ⟨f1, f2⟩ := prs_t hyes
      repeat' (first | (refine is_al ?_; (first | (refine is_move ?_; (first | refine al_v (opx_move (.raw _)) ⟨rfl, trivial⟩ trivial rfl ?_ | refine al_v (opx_move (.own _)) ⟨rfl, trivial⟩ trivial rfl ?_)) | (refine is_assign ?_; (first | refine al_v (opx_assign (.raw _)) ⟨rfl, trivial⟩ trivial rfl ?_ | refine al_v (opx_assign (.own _)) ⟨rfl, trivial⟩ trivial rfl ?_)) | (refine is_call ?_; refine al_callv2 (by (repeat (first | exact .nil | refine .one rfl rfl ?_ | refine .froz rfl rfl ?_ | refine .row rfl rfl ?_ | refine .rnil rfl ?_ | refine .agg rfl (by (repeat (first | exact .nil | refine .cons (.same rfl) ?_ | refine .cons (.froz rfl) ?_ | refine .cons (.rnil) ?_ | refine .cons (.row rfl rfl) ?_)); (first | done | fail)) ?_)); (first | done | fail)) rfl (hcv) rfl ?_) | refine al_v opx_not ⟨rfl, trivial⟩ trivial rfl ?_ | refine al_nil ?_)) | (refine is_aw ?_; (first | refine aw_seq ?_ | refine aw_region ?_ | refine aw_skip ?_ | refine aw_ret ?_ | refine aw_exit ?_ | (refine is_cond ?_; refine aw_cond_f rfl rfl ?_))))
      exact ret_row_raw trivial rfl rfl rfl ⟨by rw [f1], by rw [f2]⟩
theorem c_PL2 (r : Str) (hr : r.getLast? ≠ some 125) (hno : ∀ l, ¬ IsT (123 :: r) l) (hrl : r.length ≤ 8000000000000000000) : Con Tryd.prog 24 [rStr (123 :: r)] [] (fun rs all => rs = [.one (.own 0), rB (prsB (123 :: r))] ∧ all = [.row 2 52 (lbRs (prsL (123 :: r)))]) := by
  obtain ⟨f1, f2⟩ := prs_f hno
  have n1 : (!true) = false := rfl
  have n2 : (!false) = true := rfl
  refine con_of_aw (vars := [.tmp 2, .tmp 3]) [(0, .r (rStr (123 :: r)))] [] 0 Tryd.func24 (by kernel_rfl) rfl Tryd.ntmps24 rfl (by decide) rfl rfl rfl rfl rfl ?_; intro B M w0 ρ0 Z0
  repeat' (first | (refine is_al ?_; (first | (refine is_gd ?_; refine al_on rfl rfl rfl (by assumption) ?_) | (refine is_move ?_; (first | refine al_v (opx_move (.raw _)) ⟨rfl, trivial⟩ trivial rfl ?_ | refine al_v (opx_move (.tup _)) ⟨rfl, trivial⟩ trivial rfl ?_)) | (refine is_assign ?_; refine al_v (opx_assign (.raw _)) ⟨rfl, trivial⟩ trivial rfl ?_) | (refine is_pick ?_; refine al_v (opx_pick_f (.raw _) rfl) ⟨rfl, rfl, trivial⟩ trivial rfl ?_) | (refine is_call ?_; (first | refine al_callF (by (repeat (first | exact .nil | refine .one rfl rfl ?_ | refine .froz rfl rfl ?_ | refine .rnil rfl ?_ | refine .agg rfl (by (repeat (first | exact .nil | refine .cons (.same rfl) ?_ | refine .cons (.froz rfl) ?_ | refine .cons (.rnil) ?_)); (first | done | fail)) ?_)); (first | done | fail)) rfl (c_CutPrefix_t 123 r) rfl ?_ | refine al_callF (by (repeat (first | exact .nil | refine .one rfl rfl ?_ | refine .froz rfl rfl ?_ | refine .rnil rfl ?_ | refine .agg rfl (by (repeat (first | exact .nil | refine .cons (.same rfl) ?_ | refine .cons (.froz rfl) ?_ | refine .cons (.rnil) ?_)); (first | done | fail)) ?_)); (first | done | fail)) rfl (c_CutSuffix_f 125 r hr (by omega)) rfl ?_)) | refine al_v opx_not ⟨rfl, trivial⟩ trivial rfl ?_ | refine al_v (opx_extract _ rfl) ⟨rfl, trivial⟩ trivial rfl ?_ | refine al_nil ?_)) | (refine is_aw ?_; (first | refine aw_seq ?_ | refine aw_region ?_ | (refine is_cond ?_; refine aw_cond_t rfl rfl ?_))) | refine thn_n ?_)
  refine aw_le (le_ownNil 2 2 52 rfl) ?_
  repeat' (first | (refine is_aw ?_; refine aw_ret ?_) | refine thn_r ?_)
  exact ret_row_raw trivial rfl rfl rfl ⟨by rw [f1], by rw [f2]; rfl⟩
theorem c_PL3 (s : Str) (hh : s.head? ≠ some 123) (hno : ∀ l, ¬ IsT s l) (hs : s.length ≤ 8000000000000000000) : Con Tryd.prog 24 [rStr s] [] (fun rs all => rs = [.one (.own 0), rB (prsB s)] ∧ all = [.row 2 52 (lbRs (prsL s))]) := by
  obtain ⟨f1, f2⟩ := prs_f hno
  have n1 : (!true) = false := rfl
  have n2 : (!false) = true := rfl
  refine con_of_aw (vars := [.tmp 2, .tmp 3]) [(0, .r (rStr s))] [] 0 Tryd.func24 (by kernel_rfl) rfl Tryd.ntmps24 rfl (by decide) rfl rfl rfl rfl rfl ?_; intro B M w0 ρ0 Z0
  by_cases ht : s.getLast? = some 125
  · obtain ⟨y, rfl⟩ : ∃ y, s = y ++ [125] := by
      rcases List.eq_nil_or_concat s with rfl | ⟨y, a, rfl⟩
      · cases ht
      · rw [List.concat_eq_append] at ht ⊢
        rw [List.getLast?_append] at ht
        simp at ht
        exact ⟨y, by rw [ht]⟩
    have hyl : y.length ≤ 8000000000000000000 := by rw [List.length_append] at hs; omega
    repeat' (first | (refine is_al ?_; (first | (refine is_gd ?_; refine al_off rfl rfl rfl (by assumption) rfl ?_) | (refine is_move ?_; (first | refine al_v (opx_move (.raw _)) ⟨rfl, trivial⟩ trivial rfl ?_ | refine al_v (opx_move (.tup _)) ⟨rfl, trivial⟩ trivial rfl ?_)) | (refine is_assign ?_; refine al_v (opx_assign (.raw _)) ⟨rfl, trivial⟩ trivial rfl ?_) | (refine is_pick ?_; refine al_v (opx_pick_t (.raw _) rfl) ⟨rfl, rfl, trivial⟩ trivial rfl ?_) | (refine is_call ?_; (first | refine al_callF (by (repeat (first | exact .nil | refine .one rfl rfl ?_ | refine .froz rfl rfl ?_ | refine .rnil rfl ?_ | refine .agg rfl (by (repeat (first | exact .nil | refine .cons (.same rfl) ?_ | refine .cons (.froz rfl) ?_ | refine .cons (.rnil) ?_)); (first | done | fail)) ?_)); (first | done | fail)) rfl (c_CutPrefix_f 123 _ hh) rfl ?_ | refine al_callF (by (repeat (first | exact .nil | refine .one rfl rfl ?_ | refine .froz rfl rfl ?_ | refine .rnil rfl ?_ | refine .agg rfl (by (repeat (first | exact .nil | refine .cons (.same rfl) ?_ | refine .cons (.froz rfl) ?_ | refine .cons (.rnil) ?_)); (first | done | fail)) ?_)); (first | done | fail)) rfl (c_CutSuffix_t 125 y (by omega)) rfl ?_)) | refine al_v opx_not ⟨rfl, trivial⟩ trivial rfl ?_ | refine al_v (opx_extract _ rfl) ⟨rfl, trivial⟩ trivial rfl ?_ | refine al_nil ?_)) | (refine is_aw ?_; (first | refine aw_seq ?_ | refine aw_region ?_ | (refine is_cond ?_; refine aw_cond_t rfl rfl ?_))) | refine thn_n ?_)
    refine aw_le (le_ownNil 2 2 52 rfl) ?_
    repeat' (first | (refine is_aw ?_; refine aw_ret ?_) | refine thn_r ?_)
    exact ret_row_raw trivial rfl rfl rfl ⟨by rw [f1], by rw [f2]; rfl⟩
  · repeat' (first | (refine is_al ?_; (first | (refine is_gd ?_; refine al_off rfl rfl rfl (by assumption) rfl ?_) | (refine is_move ?_; (first | refine al_v (opx_move (.raw _)) ⟨rfl, trivial⟩ trivial rfl ?_ | refine al_v (opx_move (.tup _)) ⟨rfl, trivial⟩ trivial rfl ?_)) | (refine is_assign ?_; refine al_v (opx_assign (.raw _)) ⟨rfl, trivial⟩ trivial rfl ?_) | (refine is_pick ?_; refine al_v (opx_pick_t (.raw _) rfl) ⟨rfl, rfl, trivial⟩ trivial rfl ?_) | (refine is_call ?_; (first | refine al_callF (by (repeat (first | exact .nil | refine .one rfl rfl ?_ | refine .froz rfl rfl ?_ | refine .rnil rfl ?_ | refine .agg rfl (by (repeat (first | exact .nil | refine .cons (.same rfl) ?_ | refine .cons (.froz rfl) ?_ | refine .cons (.rnil) ?_)); (first | done | fail)) ?_)); (first | done | fail)) rfl (c_CutPrefix_f 123 _ hh) rfl ?_ | refine al_callF (by (repeat (first | exact .nil | refine .one rfl rfl ?_ | refine .froz rfl rfl ?_ | refine .rnil rfl ?_ | refine .agg rfl (by (repeat (first | exact .nil | refine .cons (.same rfl) ?_ | refine .cons (.froz rfl) ?_ | refine .cons (.rnil) ?_)); (first | done | fail)) ?_)); (first | done | fail)) rfl (c_CutSuffix_f 125 s ht (by omega)) rfl ?_)) | refine al_v opx_not ⟨rfl, trivial⟩ trivial rfl ?_ | refine al_v (opx_extract _ rfl) ⟨rfl, trivial⟩ trivial rfl ?_ | refine al_nil ?_)) | (refine is_aw ?_; (first | refine aw_seq ?_ | refine aw_region ?_ | (refine is_cond ?_; refine aw_cond_t rfl rfl ?_))) | refine thn_n ?_)
    refine aw_le (le_ownNil 2 2 52 rfl) ?_
    repeat' (first | (refine is_aw ?_; refine aw_ret ?_) | refine thn_r ?_)
    exact ret_row_raw trivial rfl rfl rfl ⟨by rw [f1], by rw [f2]; rfl⟩
theorem c_ParseLabels (s : Str) (hs : s.length ≤ 8000000000000000000) : Con Tryd.prog 24 [rStr s] [] (fun rs all => rs = [.one (.own 0), rB (prsB s)] ∧ all = [.row 2 52 (lbRs (prsL s))]) := by
  by_cases hsh : ∃ x, s = 123 :: (x ++ [125])
  · obtain ⟨x, rfl⟩ := hsh
    have hxl : (123 :: (x ++ [125]) : Str).length = x.length + 2 := by rw [List.length_cons, List.length_append]; rfl
    exact c_PL1 x (by omega)
  · have hno := prs_nil hsh
    by_cases hh : s.head? = some 123
    · obtain ⟨r, rfl⟩ : ∃ r, s = 123 :: r := by
        cases s with
        | nil => cases hh
        | cons a r => rw [List.head?_cons] at hh; cases hh; exact ⟨r, rfl⟩
      have hr : r.getLast? ≠ some 125 := fun h => hsh (by
        rcases List.eq_nil_or_concat r with rfl | ⟨y, a, rfl⟩
        · cases h
        · rw [List.concat_eq_append] at h ⊢
          rw [List.getLast?_append] at h
          simp at h
          exact ⟨y, by rw [h]⟩)
      exact c_PL2 r hr hno (by rw [List.length_cons] at hs; omega)
    · exact c_PL3 s hh hno hs
theorem c_ParseLabels' (s : Str) (hs : s.length ≤ 8000000000000000000) : Con Tryd.prog 24 [rStr s] [] (fun rs all => rs = [slL (prsL s), rB (prsB s)] ∧ all = []) :=
  (c_ParseLabels s hs).froz fun rs all ⟨h1, h2⟩ => by subst h1 h2; exact ⟨⟨rfl, rfl⟩, rfl⟩
end Go.Proofs.YtllgddednlfhfaaDoor

/-
  Labels: the law that nothing is lost.
-/
namespace Go.Proofs.YtllgddednlfhfaaDoor
open Go.RowKit
set_option linter.unusedVariables false
set_option linter.unusedSimpArgs false
attribute [local irreducible] AL AW OpX Le AD

theorem c_equalLabels_same (l : List Lb) (hL : l.length ≤ 1000000) : Con Tryd.prog 23 [slL l, slL l] [] (fun rs all => rs = [rB true] ∧ all = []) := by
  have hla := lbRs_len (xs := l)
  refine con_of_aw (vars := [.tmp 4]) [(0, .r (slL l)), (1, .r (slL l))] [] 0 Tryd.func23 (by kernel_rfl) rfl Tryd.ntmps23 rfl (by decide) rfl rfl rfl rfl rfl ?_; intro B M w0 ρ0 Z0
  have n0 : (!decide (((lbRs l).length : Int) = ((lbRs l).length : Int))) = false := neD _
  repeat' (first | (refine is_al ?_; (first | (refine is_move ?_; refine al_v (opx_move (.sl _ _)) ⟨rfl, trivial⟩ trivial rfl ?_) | (refine is_bin ?_; refine al_v opx_neq ⟨rfl, rfl, trivial⟩ trivial rfl ?_) | (refine is_assign ?_; refine al_v (opx_assign (.raw _)) ⟨rfl, trivial⟩ trivial rfl ?_) | (refine is_bi ?_; refine al_v opx_len_sl ⟨rfl, trivial⟩ trivial rfl ?_) | refine al_nil ?_)) | (refine is_aw ?_; (first | refine aw_seq ?_ | refine aw_region ?_ | refine aw_skip ?_ | refine aw_block ?_ | (refine is_cond ?_; refine aw_cond_f rfl (by assumption) ?_))))
  refine aw_loop (γ := Nat) (fun k => [(0, .r (slL l)), (1, .r (slL l)), (4, .b false), (5, .i (k : Int))]) (fun _ => []) (fun _ => 0) (fun k => k ≤ l.length) (fun k => l.length - k) 0 (Nat.zero_le _) (le_mk [] rfl rfl rfl rfl ⟨rfl, rfl, rfl, rfl, trivial⟩ trivial) ?_
  intro k hk
  rcases Nat.lt_or_ge k l.length with hlt | hge
  · have hc : decide ((k : Int) < ((lbRs l).length : Int)) = true := decide_eq_true (by omega)
    obtain ⟨x, hx⟩ : ∃ x, l[k]? = some x := ⟨_, List.getElem?_eq_getElem hlt⟩
    have hxr := lbRs_at hx
    have n1 : (!decide (x.1 = x.1 ∧ x.2 = x.2)) = false := by rw [decide_eq_true ⟨rfl, rfl⟩]; rfl
    repeat' (first | (refine is_al ?_; (first | (refine is_move ?_; (first | refine al_v (opx_move (.raw _)) ⟨rfl, trivial⟩ trivial rfl ?_ | refine al_v (opx_move (.sl _ _)) ⟨rfl, trivial⟩ trivial rfl ?_)) | (refine is_bin ?_; (first | refine al_v opx_lss ⟨rfl, rfl, trivial⟩ trivial rfl ?_ | refine al_v (opx_add (by unfold InR; omega)) ⟨rfl, rfl, trivial⟩ trivial rfl ?_)) | (refine is_assign ?_; refine al_v (opx_assign (.raw _)) ⟨rfl, trivial⟩ trivial rfl ?_) | (refine is_bi ?_; refine al_v opx_len_sl ⟨rfl, trivial⟩ trivial rfl ?_) | refine al_nil ?_)) | (refine is_ad ?_; (first | (refine isd_move ?_; (first | refine ad_v (opx_move (.raw _)) ⟨rfl, trivial⟩ trivial rfl ?_ | refine ad_v (opx_move (.sl _ _)) ⟨rfl, trivial⟩ trivial rfl ?_)) | (refine isd_bin ?_; refine ad_v opx_neS ⟨rfl, rfl, trivial⟩ trivial rfl ?_) | (refine isd_load ?_; refine ad_v opx_ld2_imm ⟨rfl, trivial⟩ trivial rfl ?_) | (refine isd_ia ?_; refine ad_v (opx_ia_sl2 hxr (by omega)) ⟨rfl, rfl, trivial⟩ trivial rfl ?_) | refine ad_nil (by kernel_rfl) ?_)) | (refine is_aw ?_; (first | refine aw_seq ?_ | refine aw_region ?_ | refine aw_skip ?_ | refine aw_block ?_ | (refine is_cond ?_; (first | refine aw_cond_t rfl (by assumption) ?_ | refine aw_cond_f rfl (by assumption) ?_)) | refine aw_draw mixed ?_)) | refine thn_n ?_)
    exact ⟨k + 1, hlt, by omega, le_mk [] rfl rfl rfl rfl ⟨rfl, rfl, rfl, rfl, trivial⟩ trivial⟩
  · have hc : decide ((k : Int) < ((lbRs l).length : Int)) = false := decide_eq_false (by omega)
    repeat' (first | (refine is_al ?_; (first | (refine is_move ?_; (first | refine al_v (opx_move (.raw _)) ⟨rfl, trivial⟩ trivial rfl ?_ | refine al_v (opx_move (.sl _ _)) ⟨rfl, trivial⟩ trivial rfl ?_)) | (refine is_bin ?_; refine al_v opx_lss ⟨rfl, rfl, trivial⟩ trivial rfl ?_) | (refine is_assign ?_; refine al_v (opx_assign (.raw _)) ⟨rfl, trivial⟩ trivial rfl ?_) | (refine is_bi ?_; refine al_v opx_len_sl ⟨rfl, trivial⟩ trivial rfl ?_) | refine al_nil ?_)) | (refine is_aw ?_; (first | refine aw_seq ?_ | refine aw_region ?_ | refine aw_ret ?_ | refine aw_exit ?_ | (refine is_cond ?_; refine aw_cond_f rfl (by assumption) ?_))))
    exact ret_raw trivial rfl ⟨congrArg (fun b => [rB b]) (rfl), rfl⟩
end Go.Proofs.YtllgddednlfhfaaDoor

/-
  Labels: the reference's parsing: the walks.
-/
namespace Go.Proofs.YtllgddednlfhfaaDoor
open Go.RowKit
set_option linter.unusedVariables false
set_option linter.unusedSimpArgs false
attribute [local irreducible] AL AW OpX Le AD

theorem c_splitAt (s : Str) (c : UInt8) (hs : s.length ≤ 1000000000) : Con Tryd.prog 39 [rStr s, .one (.c (.raw (.int .u8 c.toNat)))] [] (fun rs all => rs = [.one (.own 0)] ∧ all = [.row 1 9 (stRs (spl c s))]) := by
  refine con_of_aw (vars := [.tmp 4]) [(0, .r (rStr s)), (1, .r (.one (.c (.raw (.int .u8 c.toNat)))))] [] 0 Tryd.func39 (by kernel_rfl) rfl Tryd.ntmps39 rfl (by decide) rfl rfl rfl rfl rfl ?_; intro B M w0 ρ0 Z0
  repeat' (first | (refine is_al ?_; (first | (refine is_assign ?_; (first | refine al_v (opx_assign (.raw _)) ⟨rfl, trivial⟩ trivial rfl ?_ | refine al_v (opx_assign (.own _)) ⟨rfl, trivial⟩ trivial rfl ?_)) | (refine is_bs ?_; refine al_n opx_lit0 trivial trivial rfl ?_) | refine al_nil ?_)) | (refine is_aw ?_; (first | refine aw_seq ?_ | refine aw_region ?_ | refine aw_block ?_)))
  refine aw_loop (γ := List Str × Nat × Nat) (fun g => [(0, .r (rStr s)), (1, .r (.one (.c (.raw (.int .u8 c.toNat))))), (5, .own 0), (6, .i (g.2.1 : Int)), (7, .i (g.2.2 : Int))]) (fun g => [(0, .row 1 9 (stRs g.1))]) (fun _ => 1)
    (fun g => g.2.1 ≤ g.2.2 ∧ g.2.2 ≤ s.length ∧ spl c s = g.1 ++ spl c (s.drop g.2.1) ∧ c ∉ (s.take g.2.2).drop g.2.1 ∧ g.1.length ≤ g.2.1) (fun g => s.length - g.2.2) ([], 0, 0) ⟨Nat.le_refl _, Nat.zero_le _, rfl, by simp, Nat.le_refl _⟩ (le_mk [0] rfl rfl rfl rfl ⟨rfl, rfl, rfl, rfl, rfl, trivial⟩ ⟨rfl, trivial⟩) ?_
  rintro ⟨out, f, i⟩ ⟨h1, h2, h3, h4, h5⟩
  dsimp only at h1 h2 h3 h4 h5 ⊢
  rcases Nat.lt_or_ge i s.length with hlt | hge
  · have hc1 : decide ((i : Int) < (s.length : Int)) = true := decide_eq_true (by omega)
    obtain ⟨b, hb⟩ : ∃ b, s[i]? = some b := ⟨_, List.getElem?_eq_getElem hlt⟩
    by_cases e : b = c
    · subst e
      have d1 : decide ((b.toNat : Int) = (b.toNat : Int)) = true := eqD _
      have hdr : s.drop f = (s.take i).drop f ++ b :: s.drop (i + 1) := by
        obtain ⟨_, rfl⟩ := List.getElem?_eq_some_iff.1 hb
        have e1 : s[i] :: s.drop (i + 1) = s.drop i := (List.drop_eq_getElem_cons hlt).symm
        have e2 : s = s.take i ++ s.drop i := (List.take_append_drop i s).symm
        rw [e1]
        conv => lhs; rw [e2]
        rw [List.drop_append_of_le_length (by rw [List.length_take]; omega)]
      have hsp : spl b s = (out ++ [(s.take i).drop f]) ++ spl b (s.drop (i + 1)) := by rw [h3, hdr, spl_cut h4, List.append_assoc]; rfl
      repeat' (first | (refine is_al ?_; (first | (refine is_move ?_; (first | refine al_v (opx_move (.raw _)) ⟨rfl, trivial⟩ trivial rfl ?_ | refine al_v (opx_move (.own _)) ⟨rfl, trivial⟩ trivial rfl ?_)) | (refine is_bin ?_; (first | refine al_v opx_eql ⟨rfl, rfl, trivial⟩ trivial rfl ?_ | refine al_v opx_lss ⟨rfl, rfl, trivial⟩ trivial rfl ?_ | refine al_v (opx_add (by unfold InR; omega)) ⟨rfl, rfl, trivial⟩ trivial rfl ?_)) | (refine is_assign ?_; (first | refine al_v (opx_assign (.raw _)) ⟨rfl, trivial⟩ trivial rfl ?_ | refine al_v (opx_assign (.own _)) ⟨rfl, trivial⟩ trivial rfl ?_)) | (refine is_bi ?_; refine al_v opx_len_str ⟨rfl, trivial⟩ trivial rfl ?_) | (refine is_bs ?_; refine al_pushS ⟨rfl, trivial⟩ rfl rfl rfl rfl rfl (by omega) ?_) | refine al_nil ?_ | refine al_v (opx_sidx (k := i) rfl hb) ⟨rfl, rfl, trivial⟩ trivial rfl ?_ | refine al_v (opx_cutLH_str (l := f) (h := i) (s' := (s.take i).drop f) rfl rfl rfl (by omega)) ⟨rfl, rfl, rfl, trivial⟩ trivial rfl ?_)) | (refine is_ad ?_; (first | refine al_v (opx_sidx (k := i) rfl hb) ⟨rfl, rfl, trivial⟩ trivial rfl ?_ | refine al_v (opx_cutLH_str (l := f) (h := i) (s' := (s.take i).drop f) rfl rfl rfl (by omega)) ⟨rfl, rfl, rfl, trivial⟩ trivial rfl ?_)) | (refine is_aw ?_; (first | refine aw_seq ?_ | refine aw_region ?_ | refine aw_skip ?_ | refine aw_block ?_ | (refine is_cond ?_; refine aw_cond_t rfl (by assumption) ?_))) | refine thn_n ?_)
      exact ⟨(out ++ [(s.take i).drop f], i + 1, i + 1), ⟨Nat.le_refl _, hlt, hsp, by simp, by rw [List.length_append, List.length_singleton]; dsimp only; omega⟩, by dsimp only; omega, le_mk [_] rfl rfl rfl rfl ⟨rfl, rfl, rfl, rfl, rfl, trivial⟩ ⟨rfl, trivial⟩⟩
    · have d1 : decide ((b.toNat : Int) = (c.toNat : Int)) = false := decide_eq_false fun h => e (UInt8.toNat_inj.1 (by omega))
      have h6 : c ∉ (s.take (i + 1)).drop f := by
        rw [List.take_add_one, hb, List.drop_append_of_le_length (by rw [List.length_take]; omega)]
        intro hm
        rcases List.mem_append.1 hm with hm | hm
        · exact h4 hm
        · simp at hm; exact e hm.symm
      repeat' (first | (refine is_al ?_; (first | (refine is_move ?_; refine al_v (opx_move (.raw _)) ⟨rfl, trivial⟩ trivial rfl ?_) | (refine is_bin ?_; (first | refine al_v opx_eql ⟨rfl, rfl, trivial⟩ trivial rfl ?_ | refine al_v opx_lss ⟨rfl, rfl, trivial⟩ trivial rfl ?_ | refine al_v (opx_add (by unfold InR; omega)) ⟨rfl, rfl, trivial⟩ trivial rfl ?_)) | (refine is_assign ?_; refine al_v (opx_assign (.raw _)) ⟨rfl, trivial⟩ trivial rfl ?_) | (refine is_bi ?_; refine al_v opx_len_str ⟨rfl, trivial⟩ trivial rfl ?_) | refine al_nil ?_ | refine al_v (opx_sidx (k := i) rfl hb) ⟨rfl, rfl, trivial⟩ trivial rfl ?_)) | (refine is_ad ?_; refine al_v (opx_sidx (k := i) rfl hb) ⟨rfl, rfl, trivial⟩ trivial rfl ?_) | (refine is_aw ?_; (first | refine aw_seq ?_ | refine aw_region ?_ | refine aw_skip ?_ | refine aw_block ?_ | (refine is_cond ?_; (first | refine aw_cond_t rfl (by assumption) ?_ | refine aw_cond_f rfl (by assumption) ?_)))) | refine thn_n ?_)
      exact ⟨(out, f, i + 1), ⟨by dsimp only; omega, hlt, h3, h6, h5⟩, by dsimp only; omega, le_mk [0] rfl rfl rfl rfl ⟨rfl, rfl, rfl, rfl, rfl, trivial⟩ ⟨rfl, trivial⟩⟩
  · have hc1 : decide ((i : Int) < (s.length : Int)) = false := decide_eq_false (by omega)
    rw [List.take_of_length_le hge] at h4
    have hsp : spl c s = out ++ [s.drop f] := by rw [h3, spl_none h4]
    repeat' (first | (refine is_al ?_; (first | (refine is_move ?_; (first | refine al_v (opx_move (.raw _)) ⟨rfl, trivial⟩ trivial rfl ?_ | refine al_v (opx_move (.own _)) ⟨rfl, trivial⟩ trivial rfl ?_)) | (refine is_bin ?_; refine al_v opx_lss ⟨rfl, rfl, trivial⟩ trivial rfl ?_) | (refine is_assign ?_; refine al_v (opx_assign (.own _)) ⟨rfl, trivial⟩ trivial rfl ?_) | (refine is_bi ?_; refine al_v opx_len_str ⟨rfl, trivial⟩ trivial rfl ?_) | (refine is_bs ?_; refine al_pushS ⟨rfl, trivial⟩ rfl rfl rfl rfl rfl (by omega) ?_) | refine al_nil ?_ | refine al_v (opx_cutL_str (l := f) (s' := s.drop f) (by rw [List.take_length]) rfl (by omega)) ⟨rfl, rfl, trivial⟩ trivial rfl ?_)) | (refine is_ad ?_; refine al_v (opx_cutL_str (l := f) (s' := s.drop f) (by rw [List.take_length]) rfl (by omega)) ⟨rfl, rfl, trivial⟩ trivial rfl ?_) | (refine is_aw ?_; (first | refine aw_seq ?_ | refine aw_region ?_ | refine aw_ret ?_ | refine aw_exit ?_ | (refine is_cond ?_; refine aw_cond_f rfl (by assumption) ?_))))
    exact ret_row trivial rfl rfl ⟨rfl, by rw [hsp]⟩
theorem c_splitAt' (s : Str) (c : UInt8) (hs : s.length ≤ 1000000000) : Con Tryd.prog 39 [rStr s, .one (.c (.raw (.int .u8 c.toNat)))] [] (fun rs all => rs = [slS (spl c s)] ∧ all = []) :=
  (c_splitAt s c hs).froz fun rs all ⟨h1, h2⟩ => by subst h1 h2; exact ⟨⟨rfl, rfl⟩, rfl⟩
end Go.Proofs.YtllgddednlfhfaaDoor

/-
  Labels: the reference's parsing, whole.
-/
namespace Go.Proofs.YtllgddednlfhfaaDoor
open Go.RowKit
set_option linter.unusedVariables false
set_option linter.unusedSimpArgs false
attribute [local irreducible] AL AW OpX Le AD

theorem spl_mem {c : UInt8} : ∀ (n : Nat) {s : Str}, s.length ≤ n → ∀ p ∈ spl c s, c ∉ p
  | n, s, hn, p, hp => by
    by_cases h : c ∈ s
    · obtain ⟨x, r, rfl, hx⟩ := cut_at h
      rw [spl_cut hx] at hp
      rcases List.mem_cons.1 hp with rfl | hp
      · exact hx
      · cases n with
        | zero => simp at hn
        | succ n => exact spl_mem n (by simp at hn; omega) p hp
    · rw [spl_none h] at hp
      rcases List.mem_cons.1 hp with rfl | hp
      · exact h
      · cases hp
theorem spl2 {s a b : Str} (h : spl 61 s = [a, b]) : s = eqt (a, b) ∧ (61 : UInt8) ∉ a ∧ (61 : UInt8) ∉ b := by
  have h1 := jn_spl (c := 61) s.length (s := s) (Nat.le_refl _)
  have h2 := spl_mem (c := 61) s.length (s := s) (Nat.le_refl _)
  rw [h] at h1 h2
  exact ⟨h1.symm, h2 a (by simp), h2 b (by simp)⟩
theorem no_two {s x : Str} {l : List Lb} {part : Str} {ps : List Str} (hs : ins s = x) (hi : x ≠ []) (h : spl 44 x = l.map eqt ++ part :: ps) (hb : (spl 61 part).length ≠ 2) : ∀ m, ¬ IsT s m := by
  intro m hm
  obtain ⟨h1, h2⟩ := IsT_parts hm (by rw [hs]; exact hi)
  rw [hs, h] at h1
  have : part ∈ m.map eqt := by rw [← h1]; simp
  obtain ⟨y, hy, rfl⟩ := List.mem_map.1 this
  obtain ⟨a1, a2⟩ := VL_mem h2 hy
  have e : spl 61 (eqt y) = [y.1, y.2] := by
    rw [eqt, spl_cut (vw_not a1 (by decide)), spl_none (vw_not a2 (by decide))]
  rw [e] at hb
  exact hb rfl
theorem spl_len {c : UInt8} : ∀ (n : Nat) {s : Str}, s.length ≤ n → (spl c s).length ≤ s.length + 1
  | n, s, hn => by
    by_cases h : c ∈ s
    · obtain ⟨x, r, rfl, hx⟩ := cut_at h
      rw [spl_cut hx]
      have hl : (x ++ c :: r).length = x.length + (r.length + 1) := by rw [List.length_append, List.length_cons]
      cases n with
      | zero => omega
      | succ n => have := spl_len (c := c) n (s := r) (by omega); rw [List.length_cons]; omega
    · rw [spl_none h]; simp
theorem spl_le {c : UInt8} : ∀ (n : Nat) {s : Str}, s.length ≤ n → ∀ p ∈ spl c s, p.length ≤ s.length
  | n, s, hn, p, hp => by
    by_cases h : c ∈ s
    · obtain ⟨x, r, rfl, hx⟩ := cut_at h
      have hl : (x ++ c :: r).length = x.length + (r.length + 1) := by rw [List.length_append, List.length_cons]
      rw [spl_cut hx] at hp
      rcases List.mem_cons.1 hp with rfl | hp
      · omega
      · cases n with
        | zero => omega
        | succ n => have := spl_le (c := c) n (s := r) (by omega) p hp; omega
    · rw [spl_none h] at hp
      rcases List.mem_cons.1 hp with rfl | hp
      · exact Nat.le_refl _
      · cases hp
abbrev PLp (s : Str) (rs : List AR) (all : List OB) : Prop := rs = [.one (.own 0), rB (prsB s)] ∧ all = [.row 2 52 (lbRs (prsL s))]
theorem c_sPL1 (x : Str) (hx0 : x ≠ []) (hX : x.length ≤ 100000000) : Con Tryd.prog 40 [rStr (123 :: (x ++ [125]))] [] (PLp (123 :: (x ++ [125]))) := by
  have n1 : (!true) = false := rfl
  have n2 : (!false) = true := rfl
  have hxl : (123 :: (x ++ [125]) : Str).length = x.length + 2 := by rw [List.length_cons, List.length_append]; rfl
  have d1 : decide (((123 :: (x ++ [125]) : Str).length : Int) < 2) = false := decide_eq_false (by omega)
  have hf : (123 :: (x ++ [125]) : Str)[0]? = some 123 := rfl
  have hla : (123 :: (x ++ [125]) : Str)[x.length + 1]? = some 125 := by simp
  have hin : ((123 :: (x ++ [125]) : Str).take (x.length + 1)).drop 1 = x := by rw [List.take_succ_cons, List.drop_succ_cons, List.drop_zero, List.take_left']; rfl
  have q2 : decide ((123 :: (x ++ [125]) : Str) = [123, 125]) = false := decide_eq_false fun h => hx0 (by
    have := congrArg ins h
    rw [ins_mk] at this
    exact this)
  refine con_of_aw (vars := [.tmp 2, .tmp 3]) [(0, .r (rStr (123 :: (x ++ [125]))))] [] 0 Tryd.func40 (by kernel_rfl) rfl Tryd.ntmps40 rfl (by decide) rfl rfl rfl rfl rfl ?_; intro B M w0 ρ0 Z0
  have hlp := stRs_len (xs := spl 44 x)
  repeat' (first | (refine is_al ?_; (first | (refine is_gd ?_; refine al_on rfl rfl rfl (by assumption) ?_) | (refine is_move ?_; refine al_v (opx_move (.raw _)) ⟨rfl, trivial⟩ trivial rfl ?_) | (refine is_bin ?_; (first | refine al_v opx_neq ⟨rfl, rfl, trivial⟩ trivial rfl ?_ | refine al_v opx_lss ⟨rfl, rfl, trivial⟩ trivial rfl ?_ | refine al_v (opx_sub (by unfold InR; omega)) ⟨rfl, rfl, trivial⟩ trivial rfl ?_ | refine al_v opx_seql ⟨rfl, rfl, trivial⟩ trivial rfl ?_)) | (refine is_assign ?_; (first | refine al_v (opx_assign (.raw _)) ⟨rfl, trivial⟩ trivial rfl ?_ | refine al_v (opx_assign (.sl _ _)) ⟨rfl, trivial⟩ trivial rfl ?_ | refine al_v (opx_assign (.own _)) ⟨rfl, trivial⟩ trivial rfl ?_)) | (refine is_pick ?_; (first | refine al_v (opx_pick_f (.raw _) rfl) ⟨rfl, rfl, trivial⟩ trivial rfl ?_ | refine al_v (opx_pick_f (.raw _) (by assumption)) ⟨rfl, rfl, trivial⟩ trivial rfl ?_)) | (refine is_bi ?_; refine al_v opx_len_str ⟨rfl, trivial⟩ trivial rfl ?_) | (refine is_call ?_; refine al_callF (by (repeat (first | exact .nil | refine .one rfl rfl ?_ | refine .froz rfl rfl ?_ | refine .rnil rfl ?_ | refine .agg rfl (by (repeat (first | exact .nil | refine .cons (.same rfl) ?_ | refine .cons (.froz rfl) ?_ | refine .cons (.rnil) ?_)); (first | done | fail)) ?_)); (first | done | fail)) rfl (c_splitAt' x 44 (by omega)) rfl ?_) | (refine is_bs ?_; refine al_n opx_lit0 trivial trivial rfl ?_) | refine al_nil ?_ | refine al_v (opx_sidx (k := 0) rfl hf) ⟨rfl, rfl, trivial⟩ trivial rfl ?_ | refine al_v (opx_sidx (k := x.length + 1) (by omega) hla) ⟨rfl, rfl, trivial⟩ trivial rfl ?_ | refine al_v (opx_cutLH_str (l := 1) (h := x.length + 1) hin rfl (by omega) (by omega)) ⟨rfl, rfl, rfl, trivial⟩ trivial rfl ?_)) | (refine is_ad ?_; (first | refine al_v (opx_sidx (k := 0) rfl hf) ⟨rfl, rfl, trivial⟩ trivial rfl ?_ | refine al_v (opx_sidx (k := x.length + 1) (by omega) hla) ⟨rfl, rfl, trivial⟩ trivial rfl ?_ | refine al_v (opx_cutLH_str (l := 1) (h := x.length + 1) hin rfl (by omega) (by omega)) ⟨rfl, rfl, rfl, trivial⟩ trivial rfl ?_)) | (refine is_aw ?_; (first | refine aw_seq ?_ | refine aw_region ?_ | refine aw_skip ?_ | refine aw_block ?_ | (refine is_cond ?_; (first | refine aw_cond_f rfl rfl ?_ | refine aw_cond_f rfl (by assumption) ?_)))))
  refine aw_loop (γ := List Lb × Nat) (fun g => [(4, .own 0), (5, .sl 1 (stRs (spl 44 x))), (6, .i (g.2 : Int))]) (fun g => [(0, .row 2 52 (lbRs g.1))]) (fun _ => 1)
    (fun g => g.2 ≤ (spl 44 x).length ∧ (spl 44 x).take g.2 = g.1.map eqt ∧ (∀ y ∈ g.1, (61 : UInt8) ∉ y.1) ∧ (∀ y ∈ g.1, y.1.length ≤ x.length ∧ y.2.length ≤ x.length) ∧ g.1.length = g.2) (fun g => (spl 44 x).length - g.2) ([], 0) ⟨Nat.zero_le _, rfl, fun y hy => (by cases hy), fun y hy => (by cases hy), rfl⟩ (le_mk [0] rfl rfl rfl rfl ⟨rfl, rfl, rfl, trivial⟩ ⟨rfl, trivial⟩) ?_
  rintro ⟨l, k⟩ ⟨h1, h2, h3, h4, h5⟩
  dsimp only at h1 h2 h3 h4 h5 ⊢
  have hlr := lbRs_len (xs := l)
  have hpl : (spl 44 x).length ≤ x.length + 1 := spl_len x.length (Nat.le_refl _)
  rcases Nat.lt_or_ge k (spl 44 x).length with hlt | hge
  · have hc1 : decide ((k : Int) < ((stRs (spl 44 x)).length : Int)) = true := decide_eq_true (by omega)
    obtain ⟨part, hp⟩ : ∃ part, (spl 44 x)[k]? = some part := ⟨_, List.getElem?_eq_getElem hlt⟩
    have hpr := stRs_at hp
    have hsp : spl 44 x = l.map eqt ++ part :: (spl 44 x).drop (k + 1) := by
      obtain ⟨_, rfl⟩ := List.getElem?_eq_some_iff.1 hp
      rw [← h2, ← List.drop_eq_getElem_cons hlt, List.take_append_drop]
    have hpx := spl_le x.length (s := x) (Nat.le_refl _) part (List.mem_of_getElem? hp)
    have hl2 := stRs_len (xs := spl 61 part)
    by_cases hb : (spl 61 part).length = 2
    · obtain ⟨a, b, hab⟩ : ∃ a b, spl 61 part = [a, b] := by
        match h : spl 61 part, hb with
        | [a, b], _ => exact ⟨a, b, rfl⟩
      obtain ⟨e1, e2, e3⟩ := spl2 hab
      have e4 := eqt_len (x := (a, b))
      rw [← e1] at e4
      dsimp only at e4
      have d2 : (!decide (((stRs [a, b]).length : Int) = 2)) = false := rfl
      have hs := c_splitAt' part 61 (by omega)
      rw [hab] at hs
      have i0 : (stRs [a, b])[0]? = some (stR a) := rfl
      have i1 : (stRs [a, b])[1]? = some (stR b) := rfl
      have ht : (spl 44 x).take (k + 1) = (l ++ [(a, b)]).map eqt := by rw [List.take_add_one, hp, h2, List.map_append]; rw [e1]; rfl
      repeat' (first | (refine is_al ?_; (first | (refine is_move ?_; (first | refine al_v (opx_move (.raw _)) ⟨rfl, trivial⟩ trivial rfl ?_ | refine al_v (opx_move (.sl _ _)) ⟨rfl, trivial⟩ trivial rfl ?_)) | (refine is_bin ?_; (first | refine al_v opx_neq ⟨rfl, rfl, trivial⟩ trivial rfl ?_ | refine al_v opx_lss ⟨rfl, rfl, trivial⟩ trivial rfl ?_ | refine al_v (opx_add (by unfold InR; omega)) ⟨rfl, rfl, trivial⟩ trivial rfl ?_)) | (refine is_load ?_; refine al_v opx_ld_imm ⟨rfl, trivial⟩ trivial rfl ?_) | (refine is_assign ?_; (first | refine al_v (opx_assign (.raw _)) ⟨rfl, trivial⟩ trivial rfl ?_ | refine al_v (opx_assign (.sl _ _)) ⟨rfl, trivial⟩ trivial rfl ?_)) | (refine is_bi ?_; refine al_v opx_len_sl ⟨rfl, trivial⟩ trivial rfl ?_) | (refine is_ia ?_; refine al_v (opx_ia_sl2 hpr (by omega)) ⟨rfl, rfl, trivial⟩ trivial rfl ?_) | (refine is_call ?_; refine al_callF (by (repeat (first | exact .nil | refine .one rfl rfl ?_ | refine .froz rfl rfl ?_ | refine .rnil rfl ?_ | refine .agg rfl (by (repeat (first | exact .nil | refine .cons (.same rfl) ?_ | refine .cons (.froz rfl) ?_ | refine .cons (.rnil) ?_)); (first | done | fail)) ?_)); (first | done | fail)) rfl (hs) rfl ?_) | refine al_nil ?_)) | (refine is_ad ?_; (first | (refine isd_move ?_; (first | refine ad_v (opx_move (.sl _ _)) ⟨rfl, trivial⟩ trivial rfl ?_ | refine ad_v (opx_move (.own _)) ⟨rfl, trivial⟩ trivial rfl ?_)) | (refine isd_load ?_; refine ad_v opx_ld_imm ⟨rfl, trivial⟩ trivial rfl ?_) | (refine isd_assign ?_; refine ad_v (opx_assign (.own _)) ⟨rfl, trivial⟩ trivial rfl ?_) | (refine isd_ia ?_; (first | refine ad_v (opx_ia_sl2 i0 (by omega)) ⟨rfl, rfl, trivial⟩ trivial rfl ?_ | refine ad_v (opx_ia_sl2 i1 (by omega)) ⟨rfl, rfl, trivial⟩ trivial rfl ?_)) | refine ad_v (opx_build2 (res := [_, _]) rfl) ⟨rfl, rfl, trivial⟩ trivial rfl ?_ | (refine isd_bs ?_; refine ad_pushL ⟨rfl, trivial⟩ rfl rfl rfl rfl rfl (by omega) ?_) | refine ad_nil (by kernel_rfl) ?_)) | (refine is_aw ?_; (first | refine aw_seq ?_ | refine aw_region ?_ | refine aw_skip ?_ | refine aw_block ?_ | (refine is_cond ?_; (first | refine aw_cond_f rfl rfl ?_ | refine aw_cond_t rfl (by assumption) ?_)) | refine aw_draw mixed ?_)) | refine thn_n ?_)
      exact ⟨(l ++ [(a, b)], k + 1), ⟨hlt, ht, all_snoc h3 e2, all_snoc h4 ⟨by dsimp only; omega, by dsimp only; omega⟩, by rw [List.length_append, List.length_singleton]; dsimp only; omega⟩, by dsimp only; omega, le_mk [_] rfl rfl rfl rfl ⟨rfl, rfl, rfl, trivial⟩ ⟨rfl, trivial⟩⟩
    · have d2 : (!decide (((stRs (spl 61 part)).length : Int) = 2)) = true := by rw [decide_eq_false (by omega)]; rfl
      obtain ⟨f1, f2⟩ := prs_f (no_two ins_mk hx0 hsp hb)
      repeat' (first | (refine is_al ?_; (first | (refine is_move ?_; (first | refine al_v (opx_move (.raw _)) ⟨rfl, trivial⟩ trivial rfl ?_ | refine al_v (opx_move (.sl _ _)) ⟨rfl, trivial⟩ trivial rfl ?_)) | (refine is_bin ?_; (first | refine al_v opx_neq ⟨rfl, rfl, trivial⟩ trivial rfl ?_ | refine al_v opx_lss ⟨rfl, rfl, trivial⟩ trivial rfl ?_)) | (refine is_load ?_; refine al_v opx_ld_imm ⟨rfl, trivial⟩ trivial rfl ?_) | (refine is_assign ?_; (first | refine al_v (opx_assign (.raw _)) ⟨rfl, trivial⟩ trivial rfl ?_ | refine al_v (opx_assign (.sl _ _)) ⟨rfl, trivial⟩ trivial rfl ?_)) | (refine is_bi ?_; refine al_v opx_len_sl ⟨rfl, trivial⟩ trivial rfl ?_) | (refine is_ia ?_; refine al_v (opx_ia_sl2 hpr (by omega)) ⟨rfl, rfl, trivial⟩ trivial rfl ?_) | (refine is_call ?_; refine al_callF (by (repeat (first | exact .nil | refine .one rfl rfl ?_ | refine .froz rfl rfl ?_ | refine .rnil rfl ?_ | refine .agg rfl (by (repeat (first | exact .nil | refine .cons (.same rfl) ?_ | refine .cons (.froz rfl) ?_ | refine .cons (.rnil) ?_)); (first | done | fail)) ?_)); (first | done | fail)) rfl (c_splitAt' part 61 (by omega)) rfl ?_) | refine al_nil ?_)) | (refine is_aw ?_; (first | refine aw_seq ?_ | refine aw_region ?_ | refine aw_skip ?_ | refine aw_block ?_ | (refine is_cond ?_; refine aw_cond_t rfl (by assumption) ?_))) | refine thn_n ?_)
      refine aw_le (le_ownNil 2 2 52 rfl) ?_
      repeat' (first | (refine is_aw ?_; refine aw_ret ?_) | refine thn_r ?_ | refine inb_r ?_)
      exact ret_row_raw trivial rfl rfl rfl ⟨by rw [f1], by rw [f2]; rfl⟩
  · have hc1 : decide ((k : Int) < ((stRs (spl 44 x)).length : Int)) = false := decide_eq_false (by omega)
    rw [List.take_of_length_le hge] at h2
    have hcv := c_sValidLabels l (fun y hy => by have := h4 y hy; exact ⟨by unfold BIG; omega, by unfold BIG; omega⟩) (by unfold BIG; omega)
    cases hv : vlB l
    · rw [hv] at hcv
      obtain ⟨f1, f2⟩ := prs_f (no_valid ins_mk hx0 h2 h3 (vlB_of_f hv))
      repeat' (first | (refine is_al ?_; (first | (refine is_move ?_; (first | refine al_v (opx_move (.raw _)) ⟨rfl, trivial⟩ trivial rfl ?_ | refine al_v (opx_move (.sl _ _)) ⟨rfl, trivial⟩ trivial rfl ?_ | refine al_v (opx_move (.own _)) ⟨rfl, trivial⟩ trivial rfl ?_)) | (refine is_bin ?_; refine al_v opx_lss ⟨rfl, rfl, trivial⟩ trivial rfl ?_) | (refine is_assign ?_; refine al_v (opx_assign (.raw _)) ⟨rfl, trivial⟩ trivial rfl ?_) | (refine is_bi ?_; refine al_v opx_len_sl ⟨rfl, trivial⟩ trivial rfl ?_) | (refine is_call ?_; refine al_callv2 (by (repeat (first | exact .nil | refine .one rfl rfl ?_ | refine .froz rfl rfl ?_ | refine .row rfl rfl ?_ | refine .rnil rfl ?_ | refine .agg rfl (by (repeat (first | exact .nil | refine .cons (.same rfl) ?_ | refine .cons (.froz rfl) ?_ | refine .cons (.rnil) ?_ | refine .cons (.row rfl rfl) ?_)); (first | done | fail)) ?_)); (first | done | fail)) rfl (hcv) rfl ?_) | refine al_v opx_not ⟨rfl, trivial⟩ trivial rfl ?_ | refine al_nil ?_)) | (refine is_aw ?_; (first | refine aw_seq ?_ | refine aw_region ?_ | refine aw_exit ?_ | (refine is_cond ?_; (first | refine aw_cond_t rfl rfl ?_ | refine aw_cond_f rfl (by assumption) ?_)))) | refine thn_n ?_)
      refine aw_le (le_ownNil 2 2 52 rfl) ?_
      repeat' (first | (refine is_aw ?_; refine aw_ret ?_) | refine thn_r ?_)
      exact ret_row_raw trivial rfl rfl rfl ⟨by rw [f1], by rw [f2]; rfl⟩
    · rw [hv] at hcv
      obtain ⟨f1, f2⟩ := prs_t (IsT_mk (s := 123 :: (x ++ [125])) (by rw [ins_mk]) (by rw [ins_mk]; exact hx0) (by rw [ins_mk, h2]) (vlB_of hv))
      repeat' (first | (refine is_al ?_; (first | (refine is_move ?_; (first | refine al_v (opx_move (.raw _)) ⟨rfl, trivial⟩ trivial rfl ?_ | refine al_v (opx_move (.sl _ _)) ⟨rfl, trivial⟩ trivial rfl ?_ | refine al_v (opx_move (.own _)) ⟨rfl, trivial⟩ trivial rfl ?_)) | (refine is_bin ?_; refine al_v opx_lss ⟨rfl, rfl, trivial⟩ trivial rfl ?_) | (refine is_assign ?_; (first | refine al_v (opx_assign (.raw _)) ⟨rfl, trivial⟩ trivial rfl ?_ | refine al_v (opx_assign (.own _)) ⟨rfl, trivial⟩ trivial rfl ?_)) | (refine is_bi ?_; refine al_v opx_len_sl ⟨rfl, trivial⟩ trivial rfl ?_) | (refine is_call ?_; refine al_callv2 (by (repeat (first | exact .nil | refine .one rfl rfl ?_ | refine .froz rfl rfl ?_ | refine .row rfl rfl ?_ | refine .rnil rfl ?_ | refine .agg rfl (by (repeat (first | exact .nil | refine .cons (.same rfl) ?_ | refine .cons (.froz rfl) ?_ | refine .cons (.rnil) ?_ | refine .cons (.row rfl rfl) ?_)); (first | done | fail)) ?_)); (first | done | fail)) rfl (hcv) rfl ?_) | refine al_v opx_not ⟨rfl, trivial⟩ trivial rfl ?_ | refine al_nil ?_)) | (refine is_aw ?_; (first | refine aw_seq ?_ | refine aw_region ?_ | refine aw_skip ?_ | refine aw_ret ?_ | refine aw_exit ?_ | (refine is_cond ?_; (first | refine aw_cond_f rfl rfl ?_ | refine aw_cond_f rfl (by assumption) ?_)))))
      exact ret_row_raw trivial rfl rfl rfl ⟨by rw [f1], by rw [f2]⟩
end Go.Proofs.YtllgddednlfhfaaDoor

/-
  Labels: the reference's parsing, all texts.
-/
namespace Go.Proofs.YtllgddednlfhfaaDoor
open Go.RowKit
set_option linter.unusedVariables false
set_option linter.unusedSimpArgs false
attribute [local irreducible] AL AW OpX Le AD

theorem c_sPL0 : Con Tryd.prog 40 [rStr [123, 125]] [] (PLp [123, 125]) := by
  obtain ⟨f1, f2⟩ := prs_t IsT_nil
  have hf : ([123, 125] : Str)[0]? = some 123 := rfl
  have hla : ([123, 125] : Str)[1]? = some 125 := rfl
  have q2 : decide (([123, 125] : Str) = [123, 125]) = true := eqD _
  have l2 : ([123, 125] : Str).length = 2 := rfl
  have d1 : decide ((([123, 125] : Str).length : Int) < 2) = false := rfl
  refine con_of_aw (vars := [.tmp 2, .tmp 3]) [(0, .r (rStr [123, 125]))] [] 0 Tryd.func40 (by kernel_rfl) rfl Tryd.ntmps40 rfl (by decide) rfl rfl rfl rfl rfl ?_; intro B M w0 ρ0 Z0
  repeat' (first | (refine is_al ?_; (first | (refine is_gd ?_; refine al_on rfl rfl rfl (by assumption) ?_) | (refine is_move ?_; (first | refine al_v (opx_move (.raw _)) ⟨rfl, trivial⟩ trivial rfl ?_ | refine al_v (opx_move (.own _)) ⟨rfl, trivial⟩ trivial rfl ?_)) | (refine is_bin ?_; (first | refine al_v opx_neq ⟨rfl, rfl, trivial⟩ trivial rfl ?_ | refine al_v opx_lss ⟨rfl, rfl, trivial⟩ trivial rfl ?_ | refine al_v (opx_sub (by unfold InR; omega)) ⟨rfl, rfl, trivial⟩ trivial rfl ?_ | refine al_v opx_seql ⟨rfl, rfl, trivial⟩ trivial rfl ?_)) | (refine is_assign ?_; (first | refine al_v (opx_assign (.raw _)) ⟨rfl, trivial⟩ trivial rfl ?_ | refine al_v (opx_assign (.own _)) ⟨rfl, trivial⟩ trivial rfl ?_)) | (refine is_pick ?_; refine al_v (opx_pick_f (.raw _) rfl) ⟨rfl, rfl, trivial⟩ trivial rfl ?_) | (refine is_bi ?_; refine al_v opx_len_str ⟨rfl, trivial⟩ trivial rfl ?_) | (refine is_bs ?_; refine al_n opx_lit0 trivial trivial rfl ?_) | refine al_nil ?_ | refine al_v (opx_sidx (k := 0) rfl hf) ⟨rfl, rfl, trivial⟩ trivial rfl ?_ | refine al_v (opx_sidx (k := 1) rfl hla) ⟨rfl, rfl, trivial⟩ trivial rfl ?_)) | (refine is_ad ?_; (first | refine al_v (opx_sidx (k := 0) rfl hf) ⟨rfl, rfl, trivial⟩ trivial rfl ?_ | refine al_v (opx_sidx (k := 1) rfl hla) ⟨rfl, rfl, trivial⟩ trivial rfl ?_)) | (refine is_aw ?_; (first | refine aw_seq ?_ | refine aw_region ?_ | refine aw_skip ?_ | refine aw_ret ?_ | (refine is_cond ?_; (first | refine aw_cond_t rfl rfl ?_ | refine aw_cond_f rfl rfl ?_)))) | refine thn_r ?_)
  exact ret_row_raw trivial rfl rfl rfl ⟨by rw [f1], by rw [f2]; rfl⟩
theorem c_sPL3 (s : Str) (h : s.length < 2) : Con Tryd.prog 40 [rStr s] [] (PLp s) := by
  obtain ⟨f1, f2⟩ := prs_f (s := s) (fun l hl => by
    have := congrArg List.length (IsT_shape hl)
    rw [List.length_cons, List.length_append, List.length_singleton] at this
    omega)
  have d1 : decide ((s.length : Int) < 2) = true := decide_eq_true (by omega)
  refine con_of_aw (vars := [.tmp 2, .tmp 3]) [(0, .r (rStr s))] [] 0 Tryd.func40 (by kernel_rfl) rfl Tryd.ntmps40 rfl (by decide) rfl rfl rfl rfl rfl ?_; intro B M w0 ρ0 Z0
  repeat' (first | (refine is_al ?_; (first | (refine is_gd ?_; (first | refine al_off rfl rfl rfl (by assumption) rfl ?_ | (refine al_g rfl rfl rfl rfl ?_ ?_ <;> ((intro hgd; try exact absurd hgd (by decide)); (try (have hz := hgd; simp only [decide_eq_true_eq, decide_eq_false_iff_not, Bool.not_eq_true', Bool.not_eq_false', Bool.not_true, Bool.not_false, beq_iff_eq, Int.not_le, Int.not_lt] at hz)); (try (exfalso; omega)))))) | (refine is_move ?_; refine al_v (opx_move (.raw _)) ⟨rfl, trivial⟩ trivial rfl ?_) | (refine is_bin ?_; refine al_v opx_lss ⟨rfl, rfl, trivial⟩ trivial rfl ?_) | (refine is_assign ?_; (first | refine al_v (opx_assign (.raw _)) ⟨rfl, trivial⟩ trivial rfl ?_ | refine al_v (opx_assign (.own _)) ⟨rfl, trivial⟩ trivial rfl ?_)) | (refine is_pick ?_; (first | refine al_v (opx_pick_t (.raw _) rfl) ⟨rfl, rfl, trivial⟩ trivial rfl ?_ | refine al_v (opx_pick_t (.raw _) (by assumption)) ⟨rfl, rfl, trivial⟩ trivial rfl ?_)) | (refine is_bi ?_; refine al_v opx_len_str ⟨rfl, trivial⟩ trivial rfl ?_) | (refine is_bs ?_; refine al_n opx_lit0 trivial trivial rfl ?_) | refine al_nil ?_)) | (refine is_aw ?_; (first | refine aw_seq ?_ | refine aw_region ?_ | (refine is_cond ?_; refine aw_cond_t rfl rfl ?_))) | refine thn_n ?_)
  refine aw_le (le_ownNil 2 2 52 rfl) ?_
  repeat' (first | (refine is_aw ?_; refine aw_ret ?_) | refine thn_r ?_)
  exact ret_row_raw trivial rfl rfl rfl ⟨by rw [f1], by rw [f2]; rfl⟩
theorem c_sPL2 (a b : UInt8) (x : Str) (h : a ≠ 123 ∨ b ≠ 125) (hX : x.length ≤ 100000000) : Con Tryd.prog 40 [rStr (a :: (x ++ [b]))] [] (PLp (a :: (x ++ [b]))) := by
  obtain ⟨f1, f2⟩ := prs_f (s := a :: (x ++ [b])) (fun l hl => by
    have h1 := IsT_shape hl
    rw [List.cons.injEq] at h1
    obtain ⟨h2, h3⟩ := List.append_inj' h1.2 rfl
    rcases h with h | h
    · exact h h1.1
    · exact h (by simpa using h3))
  have hxl : (a :: (x ++ [b]) : Str).length = x.length + 2 := by rw [List.length_cons, List.length_append]; rfl
  have d1 : decide (((a :: (x ++ [b]) : Str).length : Int) < 2) = false := decide_eq_false (by omega)
  have hf : (a :: (x ++ [b]) : Str)[0]? = some a := rfl
  have hla : (a :: (x ++ [b]) : Str)[x.length + 1]? = some b := by simp
  refine con_of_aw (vars := [.tmp 2, .tmp 3]) [(0, .r (rStr (a :: (x ++ [b]))))] [] 0 Tryd.func40 (by kernel_rfl) rfl Tryd.ntmps40 rfl (by decide) rfl rfl rfl rfl rfl ?_; intro B M w0 ρ0 Z0
  by_cases ha : a = 123
  · have hb : b ≠ 125 := h.resolve_left (fun h => h ha)
    have e1 : (!decide ((a.toNat : Int) = 123)) = false := by rw [ha]; rfl
    have e2 : (!decide ((b.toNat : Int) = 125)) = true := by rw [decide_eq_false (fun h => hb (UInt8.toNat_inj.1 (by show b.toNat = 125; omega)))]; rfl
    repeat' (first | (refine is_al ?_; (first | (refine is_gd ?_; refine al_on rfl rfl rfl (by assumption) ?_) | (refine is_move ?_; refine al_v (opx_move (.raw _)) ⟨rfl, trivial⟩ trivial rfl ?_) | (refine is_bin ?_; (first | refine al_v opx_neq ⟨rfl, rfl, trivial⟩ trivial rfl ?_ | refine al_v opx_lss ⟨rfl, rfl, trivial⟩ trivial rfl ?_ | refine al_v (opx_sub (by unfold InR; omega)) ⟨rfl, rfl, trivial⟩ trivial rfl ?_)) | (refine is_assign ?_; (first | refine al_v (opx_assign (.raw _)) ⟨rfl, trivial⟩ trivial rfl ?_ | refine al_v (opx_assign (.own _)) ⟨rfl, trivial⟩ trivial rfl ?_)) | (refine is_pick ?_; refine al_v (opx_pick_f (.raw _) (by assumption)) ⟨rfl, rfl, trivial⟩ trivial rfl ?_) | (refine is_bi ?_; refine al_v opx_len_str ⟨rfl, trivial⟩ trivial rfl ?_) | (refine is_bs ?_; refine al_n opx_lit0 trivial trivial rfl ?_) | refine al_nil ?_ | refine al_v (opx_sidx (k := 0) rfl hf) ⟨rfl, rfl, trivial⟩ trivial rfl ?_ | refine al_v (opx_sidx (k := x.length + 1) (by omega) hla) ⟨rfl, rfl, trivial⟩ trivial rfl ?_)) | (refine is_ad ?_; (first | refine al_v (opx_sidx (k := 0) rfl hf) ⟨rfl, rfl, trivial⟩ trivial rfl ?_ | refine al_v (opx_sidx (k := x.length + 1) (by omega) hla) ⟨rfl, rfl, trivial⟩ trivial rfl ?_)) | (refine is_aw ?_; (first | refine aw_seq ?_ | refine aw_region ?_ | (refine is_cond ?_; refine aw_cond_t rfl (by assumption) ?_))) | refine thn_n ?_)
    refine aw_le (le_ownNil 2 2 52 rfl) ?_
    repeat' (first | (refine is_aw ?_; refine aw_ret ?_) | refine thn_r ?_)
    exact ret_row_raw trivial rfl rfl rfl ⟨by rw [f1], by rw [f2]; rfl⟩
  · have e1 : (!decide ((a.toNat : Int) = 123)) = true := by rw [decide_eq_false (fun h => ha (UInt8.toNat_inj.1 (by show a.toNat = 123; omega)))]; rfl
    repeat' (first | (refine is_al ?_; (first | (refine is_gd ?_; (first | refine al_on rfl rfl rfl (by assumption) ?_ | refine al_off rfl rfl rfl (by assumption) rfl ?_)) | (refine is_move ?_; refine al_v (opx_move (.raw _)) ⟨rfl, trivial⟩ trivial rfl ?_) | (refine is_bin ?_; (first | refine al_v opx_neq ⟨rfl, rfl, trivial⟩ trivial rfl ?_ | refine al_v opx_lss ⟨rfl, rfl, trivial⟩ trivial rfl ?_)) | (refine is_assign ?_; (first | refine al_v (opx_assign (.raw _)) ⟨rfl, trivial⟩ trivial rfl ?_ | refine al_v (opx_assign (.own _)) ⟨rfl, trivial⟩ trivial rfl ?_)) | (refine is_pick ?_; (first | refine al_v (opx_pick_t (.raw _) (by assumption)) ⟨rfl, rfl, trivial⟩ trivial rfl ?_ | refine al_v (opx_pick_f (.raw _) (by assumption)) ⟨rfl, rfl, trivial⟩ trivial rfl ?_)) | (refine is_bi ?_; refine al_v opx_len_str ⟨rfl, trivial⟩ trivial rfl ?_) | (refine is_bs ?_; refine al_n opx_lit0 trivial trivial rfl ?_) | refine al_nil ?_ | refine al_v (opx_sidx (k := 0) rfl hf) ⟨rfl, rfl, trivial⟩ trivial rfl ?_)) | (refine is_ad ?_; refine al_v (opx_sidx (k := 0) rfl hf) ⟨rfl, rfl, trivial⟩ trivial rfl ?_) | (refine is_aw ?_; (first | refine aw_seq ?_ | refine aw_region ?_ | (refine is_cond ?_; refine aw_cond_t rfl rfl ?_))) | refine thn_n ?_)
    refine aw_le (le_ownNil 2 2 52 rfl) ?_
    repeat' (first | (refine is_aw ?_; refine aw_ret ?_) | refine thn_r ?_)
    exact ret_row_raw trivial rfl rfl rfl ⟨by rw [f1], by rw [f2]; rfl⟩
theorem c_sparse (s : Str) (hs : s.length ≤ 100000000) : Con Tryd.prog 40 [rStr s] [] (PLp s) := by
  by_cases h : s.length < 2
  · exact c_sPL3 s h
  · obtain ⟨a, r, rfl⟩ : ∃ a r, s = a :: r := by
      cases s with
      | nil => simp at h
      | cons a r => exact ⟨a, r, rfl⟩
    rcases List.eq_nil_or_concat r with rfl | ⟨x, b, rfl⟩
    · simp at h
    · rw [List.concat_eq_append] at hs ⊢
      have hX : x.length ≤ 100000000 := by rw [List.length_cons, List.length_append] at hs; omega
      by_cases h2 : a ≠ 123 ∨ b ≠ 125
      · exact c_sPL2 a b x h2 hX
      · obtain ⟨rfl, rfl⟩ : a = 123 ∧ b = 125 := ⟨Classical.byContradiction fun h => h2 (.inl h), Classical.byContradiction fun h => h2 (.inr h)⟩
        by_cases hx : x = []
        · subst hx; exact c_sPL0
        · exact c_sPL1 x hx hX
end Go.Proofs.YtllgddednlfhfaaDoor
