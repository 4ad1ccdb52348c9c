/-
  Cutting strings: the walks.
-/
import Derived.Test.YtoalaimmgmehaaaPL
import Derived.Test.YtoalaimmgmehaaaEng29
import Derived.Test.YtoalaimmgmehaaaEng24
namespace Go.Proofs.Ytoalaimmgmehaaa
open Go.RowKit
set_option linter.unusedVariables false
set_option linter.unusedSimpArgs false
attribute [local irreducible] AL AW OpX Le AD

theorem c_IndexByte (s : Str) (c : UInt8) {r : Int} (hr : Lib.indexByte s c = r) : Con Try.prog 97 [rStr s, .one (.c (.raw (.int .u8 c.toNat)))] [] (fun rs all => rs = [rI r] ∧ all = []) := by
  refine con_of_aw (vars := [.tmp 4]) [(0, .r (rStr s)), (1, .r (.one (.c (.raw (.int .u8 c.toNat)))))] [] 0 Try.func97 (by kernel_rfl) rfl Try.ntmps97 rfl (by decide) rfl rfl rfl rfl rfl ?_
  intro B M w0 ρ0 Z0
  repeat' (first | (refine is_al ?_; (first | (refine is_move ?_; refine al_v (opx_move (.raw _)) ⟨rfl, trivial⟩ trivial rfl ?_) | (refine is_assign ?_; refine al_v (opx_assign (.raw _)) ⟨rfl, trivial⟩ trivial rfl ?_) | refine al_nil ?_ | refine al_v (opx_idxByte Try.func105 (by kernel_rfl) (by kernel_rfl) (by kernel_rfl) (by kernel_rfl) hr) ⟨rfl, rfl, trivial⟩ trivial rfl ?_)) | (refine is_ad ?_; refine al_v (opx_idxByte Try.func105 (by kernel_rfl) (by kernel_rfl) (by kernel_rfl) (by kernel_rfl) hr) ⟨rfl, rfl, trivial⟩ trivial rfl ?_) | (refine is_aw ?_; (first | refine aw_seq ?_ | refine aw_region ?_ | refine aw_ret ?_)))
  exact ret_raw trivial rfl ⟨rfl, rfl⟩
theorem c_Index (s : Str) (c : UInt8) {r : Int} (hr : Lib.indexByte s c = r) : Con Try.prog 89 [rStr s, rStr [c]] [] (fun rs all => rs = [rI r] ∧ all = []) := by
  refine con_of_aw (vars := [.tmp 4]) [(0, .r (rStr s)), (1, .r (rStr [c]))] [] 0 Try.func89 (by kernel_rfl) rfl Try.ntmps89 rfl (by decide) rfl rfl rfl rfl rfl ?_
  intro B M w0 ρ0 Z0
  have hc : [c][0]? = some c := rfl
  have l1 : ([c] : Str).length = 1 := rfl
  have d0 : decide ((([c] : Str).length : Int) = 0) = false := rfl
  have d1 : decide ((([c] : Str).length : Int) = 1) = true := rfl
  by_cases h : [c] = s
  · subst h
    have d2 : decide ([c] = [c]) = true := eqD _
    have h0 : r = 0 := by rw [← hr]; simp [Lib.indexByte]
    repeat' (first | (refine is_al ?_; (first | (refine is_gd ?_; refine al_on rfl rfl rfl (by assumption) ?_) | (refine is_move ?_; refine al_v (opx_move (.raw _)) ⟨rfl, trivial⟩ trivial rfl ?_) | (refine is_bin ?_; (first | refine al_v opx_eql ⟨rfl, rfl, trivial⟩ trivial rfl ?_ | refine al_v opx_seql ⟨rfl, rfl, trivial⟩ trivial rfl ?_)) | (refine is_assign ?_; refine al_v (opx_assign (.raw _)) ⟨rfl, trivial⟩ trivial rfl ?_) | (refine is_pick ?_; refine al_v (opx_pick_f (.raw _) rfl) ⟨rfl, rfl, trivial⟩ trivial rfl ?_) | (refine is_bi ?_; refine al_v opx_len_str ⟨rfl, trivial⟩ trivial rfl ?_) | refine al_nil ?_)) | (refine is_aw ?_; (first | refine aw_seq ?_ | refine aw_region ?_ | refine aw_block ?_ | refine aw_ret ?_ | (refine is_cond ?_; refine aw_cond_t rfl (by assumption) ?_))) | refine thn_r ?_ | refine inb_r ?_)
    exact ret_raw trivial rfl ⟨by rw [h0], rfl⟩
  · have d2 : decide ([c] = s) = false := decide_eq_false h
    repeat' (first | (refine is_al ?_; (first | (refine is_gd ?_; refine al_on rfl rfl rfl (by assumption) ?_) | (refine is_move ?_; refine al_v (opx_move (.raw _)) ⟨rfl, trivial⟩ trivial rfl ?_) | (refine is_bin ?_; (first | refine al_v opx_eql ⟨rfl, rfl, trivial⟩ trivial rfl ?_ | refine al_v opx_seql ⟨rfl, rfl, trivial⟩ trivial rfl ?_)) | (refine is_assign ?_; refine al_v (opx_assign (.raw _)) ⟨rfl, trivial⟩ trivial rfl ?_) | (refine is_pick ?_; refine al_v (opx_pick_f (.raw _) rfl) ⟨rfl, rfl, trivial⟩ trivial rfl ?_) | (refine is_bi ?_; refine al_v opx_len_str ⟨rfl, trivial⟩ trivial rfl ?_) | (refine is_call ?_; refine al_callF (by (repeat (first | exact .nil | refine .one rfl rfl ?_ | refine .froz rfl rfl ?_ | refine .rnil rfl ?_ | refine .agg rfl (by (repeat (first | exact .nil | refine .cons (.same rfl) ?_ | refine .cons (.froz rfl) ?_ | refine .cons (.rnil) ?_)); (first | done | fail)) ?_)); (first | done | fail)) rfl (c_IndexByte s c hr) rfl ?_) | refine al_nil ?_ | refine al_v (opx_sidx (k := 0) rfl hc) ⟨rfl, rfl, trivial⟩ trivial rfl ?_)) | (refine is_ad ?_; refine al_v (opx_sidx (k := 0) rfl hc) ⟨rfl, rfl, trivial⟩ trivial rfl ?_) | (refine is_aw ?_; (first | refine aw_seq ?_ | refine aw_region ?_ | refine aw_block ?_ | refine aw_ret ?_ | (refine is_cond ?_; (first | refine aw_cond_t rfl rfl ?_ | refine aw_cond_f rfl (by assumption) ?_)))) | refine thn_r ?_ | refine inb_r ?_)
    exact ret_raw trivial rfl ⟨rfl, rfl⟩
theorem c_Cut0_t (x r : Str) (c : UInt8) (hx : c ∉ x) (hl : x.length + r.length ≤ 9000000000000000000) : Con Try.prog 77 [rStr (x ++ c :: r), rStr [c]] [] (fun rs all => rs = [rStr x, rStr r, rB true] ∧ all = []) := by
  refine con_of_aw (vars := [.tmp 4, .tmp 5, .tmp 6]) [(0, .r (rStr (x ++ c :: r))), (1, .r (rStr [c]))] [] 0 Try.func77 (by kernel_rfl) rfl Try.ntmps77 rfl (by decide) rfl rfl rfl rfl rfl ?_
  intro B M w0 ρ0 Z0
  have d0 : decide (0 ≤ (x.length : Int)) = true := decide_eq_true (by omega)
  have l1 : ([c] : Str).length = 1 := rfl
  have l2 : (x ++ c :: r).length = x.length + (r.length + 1) := by rw [List.length_append, List.length_cons]
  have e1 : ((x ++ c :: r).take x.length).drop 0 = x := by rw [List.drop_zero, List.take_left']; rfl
  have e2 : ((x ++ c :: r).take (x ++ c :: r).length).drop (x.length + 1) = r := by
    rw [List.take_length, show x.length + 1 = (x ++ [c]).length by simp, show x ++ c :: r = (x ++ [c]) ++ r by simp, List.drop_left']; rfl
  repeat' (first | (refine is_al ?_; (first | (refine is_move ?_; refine al_v (opx_move (.raw _)) ⟨rfl, trivial⟩ trivial rfl ?_) | (refine is_bin ?_; refine al_v opx_geq ⟨rfl, rfl, trivial⟩ trivial rfl ?_) | (refine is_assign ?_; refine al_v (opx_assign (.raw _)) ⟨rfl, trivial⟩ trivial rfl ?_) | (refine is_call ?_; refine al_callF (by (repeat (first | exact .nil | refine .one rfl rfl ?_ | refine .froz rfl rfl ?_ | refine .rnil rfl ?_ | refine .agg rfl (by (repeat (first | exact .nil | refine .cons (.same rfl) ?_ | refine .cons (.froz rfl) ?_ | refine .cons (.rnil) ?_)); (first | done | fail)) ?_)); (first | done | fail)) rfl (c_Index _ c (idx_t hx)) rfl ?_) | refine al_nil ?_ | refine ad_v (opx_cutH_str (h := x.length) e1 rfl (by omega)) ⟨rfl, rfl, trivial⟩ trivial rfl ?_ | refine ad_v (opx_cutL_str (l := x.length + 1) e2 (by omega) (by omega)) ⟨rfl, rfl, trivial⟩ trivial rfl ?_)) | (refine is_ad ?_; (first | (refine isd_move ?_; refine ad_v (opx_move (.raw _)) ⟨rfl, trivial⟩ trivial rfl ?_) | (refine isd_bin ?_; refine ad_v (opx_add (by unfold InR; omega)) ⟨rfl, rfl, trivial⟩ trivial rfl ?_) | (refine isd_assign ?_; refine ad_v (opx_assign (.raw _)) ⟨rfl, trivial⟩ trivial rfl ?_) | (refine isd_bi ?_; refine ad_v opx_len_str ⟨rfl, trivial⟩ trivial rfl ?_) | refine ad_nil (by kernel_rfl) ?_ | refine ad_v (opx_cutH_str (h := x.length) e1 rfl (by omega)) ⟨rfl, rfl, trivial⟩ trivial rfl ?_ | refine ad_v (opx_cutL_str (l := x.length + 1) e2 (by omega) (by omega)) ⟨rfl, rfl, trivial⟩ trivial rfl ?_)) | (refine is_aw ?_; (first | refine aw_seq ?_ | refine aw_region ?_ | refine aw_ret ?_ | (refine is_cond ?_; refine aw_cond_t rfl rfl ?_) | refine aw_draw mixed ?_)) | refine thn_r ?_)
  exact ret_raw3 trivial rfl rfl rfl ⟨rfl, rfl⟩
theorem c_Cut0_f (s : Str) (c : UInt8) (hx : c ∉ s) : Con Try.prog 77 [rStr s, rStr [c]] [] (fun rs all => rs = [rStr s, rStr [], rB false] ∧ all = []) := by
  refine con_of_aw (vars := [.tmp 4, .tmp 5, .tmp 6]) [(0, .r (rStr s)), (1, .r (rStr [c]))] [] 0 Try.func77 (by kernel_rfl) rfl Try.ntmps77 rfl (by decide) rfl rfl rfl rfl rfl ?_
  intro B M w0 ρ0 Z0
  have d0 : decide ((0 : Int) ≤ -1) = false := rfl
  repeat' (first | (refine is_al ?_; (first | (refine is_move ?_; refine al_v (opx_move (.raw _)) ⟨rfl, trivial⟩ trivial rfl ?_) | (refine is_bin ?_; refine al_v opx_geq ⟨rfl, rfl, trivial⟩ trivial rfl ?_) | (refine is_assign ?_; refine al_v (opx_assign (.raw _)) ⟨rfl, trivial⟩ trivial rfl ?_) | (refine is_call ?_; refine al_callF (by (repeat (first | exact .nil | refine .one rfl rfl ?_ | refine .froz rfl rfl ?_ | refine .rnil rfl ?_ | refine .agg rfl (by (repeat (first | exact .nil | refine .cons (.same rfl) ?_ | refine .cons (.froz rfl) ?_ | refine .cons (.rnil) ?_)); (first | done | fail)) ?_)); (first | done | fail)) rfl (c_Index _ c (idx_f hx)) rfl ?_) | refine al_nil ?_)) | (refine is_aw ?_; (first | refine aw_seq ?_ | refine aw_region ?_ | refine aw_skip ?_ | refine aw_ret ?_ | (refine is_cond ?_; refine aw_cond_f rfl rfl ?_))))
  exact ret_raw3 trivial rfl rfl rfl ⟨rfl, rfl⟩
theorem c_Cut_t (x r : Str) (c : UInt8) (hx : c ∉ x) (hl : x.length + r.length ≤ 9000000000000000000) : Con Try.prog 51 [rStr (x ++ c :: r), rStr [c]] [] (fun rs all => rs = [rStr x, rStr r, rB true] ∧ all = []) := by
  refine con_of_aw (vars := [.tmp 4, .tmp 5, .tmp 6]) [(0, .r (rStr (x ++ c :: r))), (1, .r (rStr [c]))] [] 0 Try.func51 (by kernel_rfl) rfl Try.ntmps51 rfl (by decide) rfl rfl rfl rfl rfl ?_
  intro B M w0 ρ0 Z0
  repeat' (first | (refine is_al ?_; (first | (refine is_move ?_; refine al_v (opx_move (.raw _)) ⟨rfl, trivial⟩ trivial rfl ?_) | (refine is_assign ?_; refine al_v (opx_assign (.raw _)) ⟨rfl, trivial⟩ trivial rfl ?_) | (refine is_call ?_; refine al_callF (by (repeat (first | exact .nil | refine .one rfl rfl ?_ | refine .froz rfl rfl ?_ | refine .rnil rfl ?_ | refine .agg rfl (by (repeat (first | exact .nil | refine .cons (.same rfl) ?_ | refine .cons (.froz rfl) ?_ | refine .cons (.rnil) ?_)); (first | done | fail)) ?_)); (first | done | fail)) rfl (c_Cut0_t x r c hx hl) rfl ?_) | refine al_v (opx_extract _ rfl) ⟨rfl, trivial⟩ trivial rfl ?_ | refine al_nil ?_)) | (refine is_aw ?_; (first | refine aw_seq ?_ | refine aw_region ?_ | refine aw_ret ?_)))
  exact ret_raw3 trivial rfl rfl rfl ⟨rfl, rfl⟩
theorem c_Cut_f (s : Str) (c : UInt8) (hx : c ∉ s) : Con Try.prog 51 [rStr s, rStr [c]] [] (fun rs all => rs = [rStr s, rStr [], rB false] ∧ all = []) := by
  refine con_of_aw (vars := [.tmp 4, .tmp 5, .tmp 6]) [(0, .r (rStr s)), (1, .r (rStr [c]))] [] 0 Try.func51 (by kernel_rfl) rfl Try.ntmps51 rfl (by decide) rfl rfl rfl rfl rfl ?_
  intro B M w0 ρ0 Z0
  repeat' (first | (refine is_al ?_; (first | (refine is_move ?_; refine al_v (opx_move (.raw _)) ⟨rfl, trivial⟩ trivial rfl ?_) | (refine is_assign ?_; refine al_v (opx_assign (.raw _)) ⟨rfl, trivial⟩ trivial rfl ?_) | (refine is_call ?_; refine al_callF (by (repeat (first | exact .nil | refine .one rfl rfl ?_ | refine .froz rfl rfl ?_ | refine .rnil rfl ?_ | refine .agg rfl (by (repeat (first | exact .nil | refine .cons (.same rfl) ?_ | refine .cons (.froz rfl) ?_ | refine .cons (.rnil) ?_)); (first | done | fail)) ?_)); (first | done | fail)) rfl (c_Cut0_f s c hx) rfl ?_) | refine al_v (opx_extract _ rfl) ⟨rfl, trivial⟩ trivial rfl ?_ | refine al_nil ?_)) | (refine is_aw ?_; (first | refine aw_seq ?_ | refine aw_region ?_ | refine aw_ret ?_)))
  exact ret_raw3 trivial rfl rfl rfl ⟨rfl, rfl⟩
/-! ### the ends -/
theorem c_HasPrefix_t (c : UInt8) (r : Str) : Con Try.prog 87 [rStr (c :: r), rStr [c]] [] (fun rs all => rs = [rB true] ∧ all = []) := by
  refine con_of_aw (vars := [.tmp 4]) [(0, .r (rStr (c :: r))), (1, .r (rStr [c]))] [] 0 Try.func87 (by kernel_rfl) rfl Try.ntmps87 rfl (by decide) rfl rfl rfl rfl rfl ?_
  intro B M w0 ρ0 Z0
  have l1 : ([c] : Str).length = 1 := rfl
  have l2 : (c :: r : Str).length = r.length + 1 := rfl
  have d0 : decide ((([c] : Str).length : Int) ≤ ((c :: r : Str).length : Int)) = true := decide_eq_true (by omega)
  have e1 : ((c :: r : Str).take 1).drop 0 = [c] := rfl
  repeat' (first | (refine is_al ?_; (first | (refine is_gd ?_; refine al_on rfl rfl rfl (by assumption) ?_) | (refine is_move ?_; refine al_v (opx_move (.raw _)) ⟨rfl, trivial⟩ trivial rfl ?_) | (refine is_bin ?_; (first | refine al_v opx_geq ⟨rfl, rfl, trivial⟩ trivial rfl ?_ | refine al_v opx_seql ⟨rfl, rfl, trivial⟩ trivial rfl ?_)) | (refine is_assign ?_; refine al_v (opx_assign (.raw _)) ⟨rfl, trivial⟩ trivial rfl ?_) | (refine is_pick ?_; refine al_v (opx_pick_t (.raw _) (by assumption)) ⟨rfl, rfl, trivial⟩ trivial rfl ?_) | (refine is_bi ?_; refine al_v opx_len_str ⟨rfl, trivial⟩ trivial rfl ?_) | refine al_nil ?_ | refine al_v (opx_cutH_str (h := 1) e1 rfl (by omega)) ⟨rfl, rfl, trivial⟩ trivial rfl ?_)) | (refine is_ad ?_; refine al_v (opx_cutH_str (h := 1) e1 rfl (by omega)) ⟨rfl, rfl, trivial⟩ trivial rfl ?_) | (refine is_aw ?_; (first | refine aw_seq ?_ | refine aw_region ?_ | refine aw_ret ?_)))
  exact ret_raw trivial rfl ⟨by rw [eqD], rfl⟩
theorem c_HasPrefix_f (c : UInt8) (s : Str) (h : s.head? ≠ some c) : Con Try.prog 87 [rStr s, rStr [c]] [] (fun rs all => rs = [rB false] ∧ all = []) := by
  refine con_of_aw (vars := [.tmp 4]) [(0, .r (rStr s)), (1, .r (rStr [c]))] [] 0 Try.func87 (by kernel_rfl) rfl Try.ntmps87 rfl (by decide) rfl rfl rfl rfl rfl ?_
  intro B M w0 ρ0 Z0
  have l1 : ([c] : Str).length = 1 := rfl
  cases s with
  | nil =>
    have l2 : ([] : Str).length = 0 := rfl
    have d0 : decide ((([c] : Str).length : Int) ≤ (([] : Str).length : Int)) = false := decide_eq_false (by omega)
    repeat' (first | (refine is_al ?_; (first | (refine is_gd ?_; refine al_off rfl rfl rfl (by assumption) rfl ?_) | (refine is_move ?_; refine al_v (opx_move (.raw _)) ⟨rfl, trivial⟩ trivial rfl ?_) | (refine is_bin ?_; refine al_v opx_geq ⟨rfl, rfl, trivial⟩ trivial rfl ?_) | (refine is_assign ?_; refine al_v (opx_assign (.raw _)) ⟨rfl, trivial⟩ trivial rfl ?_) | (refine is_pick ?_; refine al_v (opx_pick_f (.raw _) rfl) ⟨rfl, rfl, trivial⟩ trivial rfl ?_) | (refine is_bi ?_; refine al_v opx_len_str ⟨rfl, trivial⟩ trivial rfl ?_) | refine al_nil ?_)) | (refine is_aw ?_; (first | refine aw_seq ?_ | refine aw_region ?_ | refine aw_ret ?_)))
    exact ret_raw trivial rfl ⟨rfl, rfl⟩
  | cons a r =>
    have l2 : (a :: r : Str).length = r.length + 1 := rfl
    have d0 : decide ((([c] : Str).length : Int) ≤ ((a :: r : Str).length : Int)) = true := decide_eq_true (by omega)
    have e1 : ((a :: r : Str).take 1).drop 0 = [a] := rfl
    have d2 : decide ([a] = [c]) = false := decide_eq_false (fun e => h (by rw [List.head?_cons]; simpa using e))
    repeat' (first | (refine is_al ?_; (first | (refine is_gd ?_; refine al_on rfl rfl rfl (by assumption) ?_) | (refine is_move ?_; refine al_v (opx_move (.raw _)) ⟨rfl, trivial⟩ trivial rfl ?_) | (refine is_bin ?_; (first | refine al_v opx_geq ⟨rfl, rfl, trivial⟩ trivial rfl ?_ | refine al_v opx_seql ⟨rfl, rfl, trivial⟩ trivial rfl ?_)) | (refine is_assign ?_; refine al_v (opx_assign (.raw _)) ⟨rfl, trivial⟩ trivial rfl ?_) | (refine is_pick ?_; refine al_v (opx_pick_t (.raw _) (by assumption)) ⟨rfl, rfl, trivial⟩ trivial rfl ?_) | (refine is_bi ?_; refine al_v opx_len_str ⟨rfl, trivial⟩ trivial rfl ?_) | refine al_nil ?_ | refine al_v (opx_cutH_str (h := 1) e1 rfl (by omega)) ⟨rfl, rfl, trivial⟩ trivial rfl ?_)) | (refine is_ad ?_; refine al_v (opx_cutH_str (h := 1) e1 rfl (by omega)) ⟨rfl, rfl, trivial⟩ trivial rfl ?_) | (refine is_aw ?_; (first | refine aw_seq ?_ | refine aw_region ?_ | refine aw_ret ?_)))
    exact ret_raw trivial rfl ⟨by rw [d2], rfl⟩
theorem c_HasSuffix_t (c : UInt8) (x : Str) (hl : x.length ≤ 9000000000000000000) : Con Try.prog 88 [rStr (x ++ [c]), rStr [c]] [] (fun rs all => rs = [rB true] ∧ all = []) := by
  refine con_of_aw (vars := [.tmp 4]) [(0, .r (rStr (x ++ [c]))), (1, .r (rStr [c]))] [] 0 Try.func88 (by kernel_rfl) rfl Try.ntmps88 rfl (by decide) rfl rfl rfl rfl rfl ?_
  intro B M w0 ρ0 Z0
  have l1 : ([c] : Str).length = 1 := rfl
  have l2 : (x ++ [c]).length = x.length + 1 := by rw [List.length_append]; rfl
  have d0 : decide ((([c] : Str).length : Int) ≤ ((x ++ [c]).length : Int)) = true := decide_eq_true (by omega)
  have e1 : ((x ++ [c]).take (x ++ [c]).length).drop x.length = [c] := by rw [List.take_length, List.drop_left']; rfl
  repeat' (first | (refine is_al ?_; (first | (refine is_gd ?_; refine al_on rfl rfl rfl (by assumption) ?_) | (refine is_move ?_; refine al_v (opx_move (.raw _)) ⟨rfl, trivial⟩ trivial rfl ?_) | (refine is_bin ?_; (first | refine al_v opx_geq ⟨rfl, rfl, trivial⟩ trivial rfl ?_ | refine al_v (opx_sub (by unfold InR; omega)) ⟨rfl, rfl, trivial⟩ trivial rfl ?_ | refine al_v opx_seql ⟨rfl, rfl, trivial⟩ trivial rfl ?_)) | (refine is_assign ?_; refine al_v (opx_assign (.raw _)) ⟨rfl, trivial⟩ trivial rfl ?_) | (refine is_pick ?_; refine al_v (opx_pick_t (.raw _) (by assumption)) ⟨rfl, rfl, trivial⟩ trivial rfl ?_) | (refine is_bi ?_; refine al_v opx_len_str ⟨rfl, trivial⟩ trivial rfl ?_) | refine al_nil ?_ | refine al_v (opx_cutL_str (l := x.length) e1 (by omega) (by omega)) ⟨rfl, rfl, trivial⟩ trivial rfl ?_)) | (refine is_ad ?_; refine al_v (opx_cutL_str (l := x.length) e1 (by omega) (by omega)) ⟨rfl, rfl, trivial⟩ trivial rfl ?_) | (refine is_aw ?_; (first | refine aw_seq ?_ | refine aw_region ?_ | refine aw_ret ?_)))
  exact ret_raw trivial rfl ⟨by rw [eqD], rfl⟩
theorem c_HasSuffix_f (c : UInt8) (s : Str) (h : s.getLast? ≠ some c) (hl : s.length ≤ 9000000000000000000) : Con Try.prog 88 [rStr s, rStr [c]] [] (fun rs all => rs = [rB false] ∧ all = []) := by
  refine con_of_aw (vars := [.tmp 4]) [(0, .r (rStr s)), (1, .r (rStr [c]))] [] 0 Try.func88 (by kernel_rfl) rfl Try.ntmps88 rfl (by decide) rfl rfl rfl rfl rfl ?_
  intro B M w0 ρ0 Z0
  have l1 : ([c] : Str).length = 1 := rfl
  rcases List.eq_nil_or_concat s with rfl | ⟨x, a, rfl⟩
  · have l2 : ([] : Str).length = 0 := rfl
    have d0 : decide ((([c] : Str).length : Int) ≤ (([] : Str).length : Int)) = false := decide_eq_false (by omega)
    repeat' (first | (refine is_al ?_; (first | (refine is_gd ?_; refine al_off rfl rfl rfl (by assumption) rfl ?_) | (refine is_move ?_; refine al_v (opx_move (.raw _)) ⟨rfl, trivial⟩ trivial rfl ?_) | (refine is_bin ?_; refine al_v opx_geq ⟨rfl, rfl, trivial⟩ trivial rfl ?_) | (refine is_assign ?_; refine al_v (opx_assign (.raw _)) ⟨rfl, trivial⟩ trivial rfl ?_) | (refine is_pick ?_; refine al_v (opx_pick_f (.raw _) rfl) ⟨rfl, rfl, trivial⟩ trivial rfl ?_) | (refine is_bi ?_; refine al_v opx_len_str ⟨rfl, trivial⟩ trivial rfl ?_) | refine al_nil ?_)) | (refine is_aw ?_; (first | refine aw_seq ?_ | refine aw_region ?_ | refine aw_ret ?_)))
    exact ret_raw trivial rfl ⟨rfl, rfl⟩
  · rw [List.concat_eq_append] at h hl ⊢
    have l2 : (x ++ [a]).length = x.length + 1 := by rw [List.length_append]; rfl
    have d0 : decide ((([c] : Str).length : Int) ≤ ((x ++ [a]).length : Int)) = true := decide_eq_true (by omega)
    have e1 : ((x ++ [a]).take (x ++ [a]).length).drop x.length = [a] := by rw [List.take_length, List.drop_left']; rfl
    have d2 : decide ([a] = [c]) = false := decide_eq_false (fun e => h (by rw [List.getLast?_append]; simpa using e))
    repeat' (first | (refine is_al ?_; (first | (refine is_gd ?_; refine al_on rfl rfl rfl (by assumption) ?_) | (refine is_move ?_; refine al_v (opx_move (.raw _)) ⟨rfl, trivial⟩ trivial rfl ?_) | (refine is_bin ?_; (first | refine al_v opx_geq ⟨rfl, rfl, trivial⟩ trivial rfl ?_ | refine al_v (opx_sub (by unfold InR; omega)) ⟨rfl, rfl, trivial⟩ trivial rfl ?_ | refine al_v opx_seql ⟨rfl, rfl, trivial⟩ trivial rfl ?_)) | (refine is_assign ?_; refine al_v (opx_assign (.raw _)) ⟨rfl, trivial⟩ trivial rfl ?_) | (refine is_pick ?_; refine al_v (opx_pick_t (.raw _) (by assumption)) ⟨rfl, rfl, trivial⟩ trivial rfl ?_) | (refine is_bi ?_; refine al_v opx_len_str ⟨rfl, trivial⟩ trivial rfl ?_) | refine al_nil ?_ | refine al_v (opx_cutL_str (l := x.length) e1 (by omega) (by omega)) ⟨rfl, rfl, trivial⟩ trivial rfl ?_)) | (refine is_ad ?_; refine al_v (opx_cutL_str (l := x.length) e1 (by omega) (by omega)) ⟨rfl, rfl, trivial⟩ trivial rfl ?_) | (refine is_aw ?_; (first | refine aw_seq ?_ | refine aw_region ?_ | refine aw_ret ?_)))
    exact ret_raw trivial rfl ⟨by rw [d2], rfl⟩
theorem c_CutPrefix_t (c : UInt8) (r : Str) : Con Try.prog 49 [rStr (c :: r), rStr [c]] [] (fun rs all => rs = [rStr r, rB true] ∧ all = []) := by
  have h0 : Con Try.prog 75 [rStr (c :: r), rStr [c]] [] (fun rs all => rs = [rStr r, rB true] ∧ all = []) := by
    refine con_of_aw (vars := [.tmp 4, .tmp 5]) [(0, .r (rStr (c :: r))), (1, .r (rStr [c]))] [] 0 Try.func75 (by kernel_rfl) rfl Try.ntmps75 rfl (by decide) rfl rfl rfl rfl rfl ?_
    intro B M w0 ρ0 Z0
    have n1 : (!true) = false := rfl
    have l2 : (c :: r : Str).length = r.length + 1 := rfl
    have e1 : ((c :: r : Str).take (c :: r : Str).length).drop 1 = r := by rw [List.take_length]; rfl
    repeat' (first | (refine is_al ?_; (first | (refine is_move ?_; refine al_v (opx_move (.raw _)) ⟨rfl, trivial⟩ trivial rfl ?_) | (refine is_assign ?_; refine al_v (opx_assign (.raw _)) ⟨rfl, trivial⟩ trivial rfl ?_) | (refine is_bi ?_; refine al_v opx_len_str ⟨rfl, trivial⟩ trivial rfl ?_) | (refine is_call ?_; refine al_callF (by (repeat (first | exact .nil | refine .one rfl rfl ?_ | refine .froz rfl rfl ?_ | refine .rnil rfl ?_ | refine .agg rfl (by (repeat (first | exact .nil | refine .cons (.same rfl) ?_ | refine .cons (.froz rfl) ?_ | refine .cons (.rnil) ?_)); (first | done | fail)) ?_)); (first | done | fail)) rfl (c_HasPrefix_t c r) rfl ?_) | refine al_v opx_not ⟨rfl, trivial⟩ trivial rfl ?_ | refine al_nil ?_ | refine al_v (opx_cutL_str (l := 1) e1 rfl (by omega)) ⟨rfl, rfl, trivial⟩ trivial rfl ?_)) | (refine is_ad ?_; refine al_v (opx_cutL_str (l := 1) e1 rfl (by omega)) ⟨rfl, rfl, trivial⟩ trivial rfl ?_) | (refine is_aw ?_; (first | refine aw_seq ?_ | refine aw_region ?_ | refine aw_skip ?_ | refine aw_ret ?_ | (refine is_cond ?_; refine aw_cond_f rfl rfl ?_))))
    exact ret_raw2 trivial rfl rfl ⟨rfl, rfl⟩
  refine con_of_aw (vars := [.tmp 4, .tmp 5]) [(0, .r (rStr (c :: r))), (1, .r (rStr [c]))] [] 0 Try.func49 (by kernel_rfl) rfl Try.ntmps49 rfl (by decide) rfl rfl rfl rfl rfl ?_
  intro B M w0 ρ0 Z0
  repeat' (first | (refine is_al ?_; (first | (refine is_move ?_; refine al_v (opx_move (.raw _)) ⟨rfl, trivial⟩ trivial rfl ?_) | (refine is_assign ?_; refine al_v (opx_assign (.raw _)) ⟨rfl, trivial⟩ trivial rfl ?_) | (refine is_call ?_; refine al_callF (by (repeat (first | exact .nil | refine .one rfl rfl ?_ | refine .froz rfl rfl ?_ | refine .rnil rfl ?_ | refine .agg rfl (by (repeat (first | exact .nil | refine .cons (.same rfl) ?_ | refine .cons (.froz rfl) ?_ | refine .cons (.rnil) ?_)); (first | done | fail)) ?_)); (first | done | fail)) rfl (h0) rfl ?_) | refine al_v (opx_extract _ rfl) ⟨rfl, trivial⟩ trivial rfl ?_ | refine al_nil ?_)) | (refine is_aw ?_; (first | refine aw_seq ?_ | refine aw_region ?_ | refine aw_ret ?_)))
  exact ret_raw2 trivial rfl rfl ⟨rfl, rfl⟩
theorem c_CutPrefix_f (c : UInt8) (s : Str) (h : s.head? ≠ some c) : Con Try.prog 49 [rStr s, rStr [c]] [] (fun rs all => rs = [rStr s, rB false] ∧ all = []) := by
  have h0 : Con Try.prog 75 [rStr s, rStr [c]] [] (fun rs all => rs = [rStr s, rB false] ∧ all = []) := by
    refine con_of_aw (vars := [.tmp 4, .tmp 5]) [(0, .r (rStr s)), (1, .r (rStr [c]))] [] 0 Try.func75 (by kernel_rfl) rfl Try.ntmps75 rfl (by decide) rfl rfl rfl rfl rfl ?_
    intro B M w0 ρ0 Z0
    have n2 : (!false) = true := rfl
    repeat' (first | (refine is_al ?_; (first | (refine is_move ?_; refine al_v (opx_move (.raw _)) ⟨rfl, trivial⟩ trivial rfl ?_) | (refine is_assign ?_; refine al_v (opx_assign (.raw _)) ⟨rfl, trivial⟩ trivial rfl ?_) | (refine is_call ?_; refine al_callF (by (repeat (first | exact .nil | refine .one rfl rfl ?_ | refine .froz rfl rfl ?_ | refine .rnil rfl ?_ | refine .agg rfl (by (repeat (first | exact .nil | refine .cons (.same rfl) ?_ | refine .cons (.froz rfl) ?_ | refine .cons (.rnil) ?_)); (first | done | fail)) ?_)); (first | done | fail)) rfl (c_HasPrefix_f c s h) rfl ?_) | refine al_v opx_not ⟨rfl, trivial⟩ trivial rfl ?_ | refine al_nil ?_)) | (refine is_aw ?_; (first | refine aw_seq ?_ | refine aw_region ?_ | refine aw_ret ?_ | (refine is_cond ?_; refine aw_cond_t rfl rfl ?_))) | refine thn_r ?_)
    exact ret_raw2 trivial rfl rfl ⟨rfl, rfl⟩
  refine con_of_aw (vars := [.tmp 4, .tmp 5]) [(0, .r (rStr s)), (1, .r (rStr [c]))] [] 0 Try.func49 (by kernel_rfl) rfl Try.ntmps49 rfl (by decide) rfl rfl rfl rfl rfl ?_
  intro B M w0 ρ0 Z0
  repeat' (first | (refine is_al ?_; (first | (refine is_move ?_; refine al_v (opx_move (.raw _)) ⟨rfl, trivial⟩ trivial rfl ?_) | (refine is_assign ?_; refine al_v (opx_assign (.raw _)) ⟨rfl, trivial⟩ trivial rfl ?_) | (refine is_call ?_; refine al_callF (by (repeat (first | exact .nil | refine .one rfl rfl ?_ | refine .froz rfl rfl ?_ | refine .rnil rfl ?_ | refine .agg rfl (by (repeat (first | exact .nil | refine .cons (.same rfl) ?_ | refine .cons (.froz rfl) ?_ | refine .cons (.rnil) ?_)); (first | done | fail)) ?_)); (first | done | fail)) rfl (h0) rfl ?_) | refine al_v (opx_extract _ rfl) ⟨rfl, trivial⟩ trivial rfl ?_ | refine al_nil ?_)) | (refine is_aw ?_; (first | refine aw_seq ?_ | refine aw_region ?_ | refine aw_ret ?_)))
  exact ret_raw2 trivial rfl rfl ⟨rfl, rfl⟩
theorem c_CutSuffix_t (c : UInt8) (x : Str) (hl : x.length ≤ 9000000000000000000) : Con Try.prog 50 [rStr (x ++ [c]), rStr [c]] [] (fun rs all => rs = [rStr x, rB true] ∧ all = []) := by
  have h0 : Con Try.prog 76 [rStr (x ++ [c]), rStr [c]] [] (fun rs all => rs = [rStr x, rB true] ∧ all = []) := by
    refine con_of_aw (vars := [.tmp 4, .tmp 5]) [(0, .r (rStr (x ++ [c]))), (1, .r (rStr [c]))] [] 0 Try.func76 (by kernel_rfl) rfl Try.ntmps76 rfl (by decide) rfl rfl rfl rfl rfl ?_
    intro B M w0 ρ0 Z0
    have n1 : (!true) = false := rfl
    have l1 : ([c] : Str).length = 1 := rfl
    have l2 : (x ++ [c]).length = x.length + 1 := by rw [List.length_append]; rfl
    have e1 : ((x ++ [c]).take x.length).drop 0 = x := by rw [List.drop_zero, List.take_left']; rfl
    repeat' (first | (refine is_al ?_; (first | (refine is_move ?_; refine al_v (opx_move (.raw _)) ⟨rfl, trivial⟩ trivial rfl ?_) | (refine is_bin ?_; refine al_v (opx_sub (by unfold InR; omega)) ⟨rfl, rfl, trivial⟩ trivial rfl ?_) | (refine is_assign ?_; refine al_v (opx_assign (.raw _)) ⟨rfl, trivial⟩ trivial rfl ?_) | (refine is_bi ?_; refine al_v opx_len_str ⟨rfl, trivial⟩ trivial rfl ?_) | (refine is_call ?_; refine al_callF (by (repeat (first | exact .nil | refine .one rfl rfl ?_ | refine .froz rfl rfl ?_ | refine .rnil rfl ?_ | refine .agg rfl (by (repeat (first | exact .nil | refine .cons (.same rfl) ?_ | refine .cons (.froz rfl) ?_ | refine .cons (.rnil) ?_)); (first | done | fail)) ?_)); (first | done | fail)) rfl (c_HasSuffix_t c x hl) rfl ?_) | refine al_v opx_not ⟨rfl, trivial⟩ trivial rfl ?_ | refine al_nil ?_ | refine al_v (opx_cutH_str (h := x.length) e1 (by omega) (by omega)) ⟨rfl, rfl, trivial⟩ trivial rfl ?_)) | (refine is_ad ?_; refine al_v (opx_cutH_str (h := x.length) e1 (by omega) (by omega)) ⟨rfl, rfl, trivial⟩ trivial rfl ?_) | (refine is_aw ?_; (first | refine aw_seq ?_ | refine aw_region ?_ | refine aw_skip ?_ | refine aw_ret ?_ | (refine is_cond ?_; refine aw_cond_f rfl rfl ?_))))
    exact ret_raw2 trivial rfl rfl ⟨rfl, rfl⟩
  refine con_of_aw (vars := [.tmp 4, .tmp 5]) [(0, .r (rStr (x ++ [c]))), (1, .r (rStr [c]))] [] 0 Try.func50 (by kernel_rfl) rfl Try.ntmps50 rfl (by decide) rfl rfl rfl rfl rfl ?_
  intro B M w0 ρ0 Z0
  repeat' (first | (refine is_al ?_; (first | (refine is_move ?_; refine al_v (opx_move (.raw _)) ⟨rfl, trivial⟩ trivial rfl ?_) | (refine is_assign ?_; refine al_v (opx_assign (.raw _)) ⟨rfl, trivial⟩ trivial rfl ?_) | (refine is_call ?_; refine al_callF (by (repeat (first | exact .nil | refine .one rfl rfl ?_ | refine .froz rfl rfl ?_ | refine .rnil rfl ?_ | refine .agg rfl (by (repeat (first | exact .nil | refine .cons (.same rfl) ?_ | refine .cons (.froz rfl) ?_ | refine .cons (.rnil) ?_)); (first | done | fail)) ?_)); (first | done | fail)) rfl (h0) rfl ?_) | refine al_v (opx_extract _ rfl) ⟨rfl, trivial⟩ trivial rfl ?_ | refine al_nil ?_)) | (refine is_aw ?_; (first | refine aw_seq ?_ | refine aw_region ?_ | refine aw_ret ?_)))
  exact ret_raw2 trivial rfl rfl ⟨rfl, rfl⟩
theorem c_CutSuffix_f (c : UInt8) (s : Str) (h : s.getLast? ≠ some c) (hl : s.length ≤ 9000000000000000000) : Con Try.prog 50 [rStr s, rStr [c]] [] (fun rs all => rs = [rStr s, rB false] ∧ all = []) := by
  have h0 : Con Try.prog 76 [rStr s, rStr [c]] [] (fun rs all => rs = [rStr s, rB false] ∧ all = []) := by
    refine con_of_aw (vars := [.tmp 4, .tmp 5]) [(0, .r (rStr s)), (1, .r (rStr [c]))] [] 0 Try.func76 (by kernel_rfl) rfl Try.ntmps76 rfl (by decide) rfl rfl rfl rfl rfl ?_
    intro B M w0 ρ0 Z0
    have n2 : (!false) = true := rfl
    repeat' (first | (refine is_al ?_; (first | (refine is_move ?_; refine al_v (opx_move (.raw _)) ⟨rfl, trivial⟩ trivial rfl ?_) | (refine is_assign ?_; refine al_v (opx_assign (.raw _)) ⟨rfl, trivial⟩ trivial rfl ?_) | (refine is_call ?_; refine al_callF (by (repeat (first | exact .nil | refine .one rfl rfl ?_ | refine .froz rfl rfl ?_ | refine .rnil rfl ?_ | refine .agg rfl (by (repeat (first | exact .nil | refine .cons (.same rfl) ?_ | refine .cons (.froz rfl) ?_ | refine .cons (.rnil) ?_)); (first | done | fail)) ?_)); (first | done | fail)) rfl (c_HasSuffix_f c s h hl) rfl ?_) | refine al_v opx_not ⟨rfl, trivial⟩ trivial rfl ?_ | refine al_nil ?_)) | (refine is_aw ?_; (first | refine aw_seq ?_ | refine aw_region ?_ | refine aw_ret ?_ | (refine is_cond ?_; refine aw_cond_t rfl rfl ?_))) | refine thn_r ?_)
    exact ret_raw2 trivial rfl rfl ⟨rfl, rfl⟩
  refine con_of_aw (vars := [.tmp 4, .tmp 5]) [(0, .r (rStr s)), (1, .r (rStr [c]))] [] 0 Try.func50 (by kernel_rfl) rfl Try.ntmps50 rfl (by decide) rfl rfl rfl rfl rfl ?_
  intro B M w0 ρ0 Z0
  repeat' (first | (refine is_al ?_; (first | (refine is_move ?_; refine al_v (opx_move (.raw _)) ⟨rfl, trivial⟩ trivial rfl ?_) | (refine is_assign ?_; refine al_v (opx_assign (.raw _)) ⟨rfl, trivial⟩ trivial rfl ?_) | (refine is_call ?_; refine al_callF (by (repeat (first | exact .nil | refine .one rfl rfl ?_ | refine .froz rfl rfl ?_ | refine .rnil rfl ?_ | refine .agg rfl (by (repeat (first | exact .nil | refine .cons (.same rfl) ?_ | refine .cons (.froz rfl) ?_ | refine .cons (.rnil) ?_)); (first | done | fail)) ?_)); (first | done | fail)) rfl (h0) rfl ?_) | refine al_v (opx_extract _ rfl) ⟨rfl, trivial⟩ trivial rfl ?_ | refine al_nil ?_)) | (refine is_aw ?_; (first | refine aw_seq ?_ | refine aw_region ?_ | refine aw_ret ?_)))
  exact ret_raw2 trivial rfl rfl ⟨rfl, rfl⟩
end Go.Proofs.Ytoalaimmgmehaaa
