/-
  Numbers in decimal, texts of lines: the walks.
-/
import Derived.Test.YtllgddednlfhfaaDoorWG
import Derived.Test.YtllgddednlfhfaaDoorWS
import Derived.Test.YtllgddednlfhfaaDoorEng36
import Derived.Test.YtllgddednlfhfaaDoorEng32
namespace Go.Proofs.YtllgddednlfhfaaDoor
open Go.RowKit
set_option linter.unusedVariables false
set_option linter.unusedSimpArgs false
attribute [local irreducible] AL AW OpX Le AD

theorem tab_of {Z : Nat → Prop} {w : World} (h : Gl Z w) : Lib.TabIs Tryd.prog w "internal/strconv.uint64pow10" .u64 Lib.pow10Tab := by
  obtain ⟨_, o, h1, t, fr, rfl⟩ := h ⟨1, _⟩ (.tail _ (.head _))
  have hg : Tryd.prog.globalNamed "internal/strconv.uint64pow10" = some 1 := by kernel_rfl
  unfold Lib.TabIs World.var?
  rw [hg]
  show (match w.heap[1]? with | some (.cells cs _ _) => some cs | _ => none) = _
  rw [h1]; rfl
theorem c_Itoa (n : Int) (h : -9223372036854775808 ≤ n ∧ n ≤ 9223372036854775807) : Con Tryd.prog 33 [rI n] [] (fun rs all => rs = [rStr (Lib.itoa n)] ∧ all = []) := by
  refine con_of_belowG (v := .string ⟨(Lib.itoa n).toArray⟩) rfl (by kernel_rfl) fun w ρ Z vs hd hz hgl => ?_
  match vs, hd with
  | [u], hd =>
    have hu : u = .int .i64 n := by
      have h : DC Z w (cI n) u := hd.1
      cases h; rfl
    subst hu
    refine (strconv_Itoa n h.1 h.2 w (tab_of hgl)).mono ?_
    rintro e w' ⟨rfl, k, os, rfl⟩
    refine ⟨rfl, rfl, rfl, rfl, ?_, fun g hg => ?_⟩
    · show w.heap.size ≤ (w.heap ++ os).size
      simp
    · show (w.heap ++ os)[g]? = _
      rw [Array.getElem?_append_left hg]
theorem dec_small {u : Nat} (h : u < 10) : Lib.decDigits u = [UInt8.ofNat (48 + u)] := Lib.decDigits_one h
theorem dec_big {u : Nat} (h : ¬ u < 10) : Lib.decDigits u = Lib.decDigits (u / 10) ++ [UInt8.ofNat (48 + u % 10)] := by rw [Lib.decDigits, dif_neg h]
theorem dec_len : ∀ (n : Nat) {u : Nat}, u ≤ n → (Lib.decDigits u).length ≤ u + 1
  | n, u, h => by
    by_cases h1 : u < 10
    · rw [dec_small h1]; simp
    · rw [dec_big h1, List.length_append]
      match n with
      | 0 => omega
      | n + 1 =>
        have := dec_len n (u := u / 10) (by omega)
        simp; omega
theorem c_decN (n : Nat) : ∀ u : Nat, u ≤ n → u ≤ 1000000000000 → Con Tryd.prog 30 [rI (u : Int)] [] (fun rs all => rs = [rStr (Lib.decDigits u)] ∧ all = []) := by
  induction n with
  | zero =>
    intro u h0 hu
    obtain rfl : u = 0 := by omega
    have d0 : decide (((0 : Nat) : Int) < 0) = false := rfl
    have d1 : decide (((0 : Nat) : Int) < 10) = true := rfl
    refine con_of_aw (vars := [.tmp 2]) [(0, .r (rI ((0 : Nat) : Int)))] [] 0 Tryd.func30 (by kernel_rfl) rfl Tryd.ntmps30 rfl (by decide) rfl rfl rfl rfl rfl ?_; intro B M w0 ρ0 Z0
    repeat' (first | (refine is_al ?_; (first | (refine is_gd ?_; refine al_off rfl rfl rfl (by assumption) rfl ?_) | (refine is_move ?_; refine al_v (opx_move (.raw _)) ⟨rfl, trivial⟩ trivial rfl ?_) | (refine is_bin ?_; (first | refine al_v opx_lss ⟨rfl, rfl, trivial⟩ trivial rfl ?_ | refine al_v (opx_add (by unfold InR; omega)) ⟨rfl, rfl, trivial⟩ trivial rfl ?_)) | (refine is_assign ?_; refine al_v (opx_assign (.raw _)) ⟨rfl, trivial⟩ trivial rfl ?_) | (refine is_pick ?_; refine al_v (opx_pick_f (.raw _) rfl) ⟨rfl, rfl, trivial⟩ trivial rfl ?_) | refine al_nil ?_ | refine al_v (opx_byte (k := 48 + 0) (by omega) (by omega)) ⟨rfl, trivial⟩ trivial rfl ?_ | refine al_litB1 rfl rfl ?_ | refine al_v (opx_bstr_own (by kernel_rfl)) ⟨rfl, trivial⟩ ⟨rfl, trivial⟩ rfl ?_)) | (refine is_ad ?_; (first | refine al_v (opx_byte (k := 48 + 0) (by omega) (by omega)) ⟨rfl, trivial⟩ trivial rfl ?_ | refine al_litB1 rfl rfl ?_ | refine al_v (opx_bstr_own (by kernel_rfl)) ⟨rfl, trivial⟩ ⟨rfl, trivial⟩ rfl ?_)) | (refine is_aw ?_; (first | refine aw_seq ?_ | refine aw_region ?_ | refine aw_skip ?_ | refine aw_ret ?_ | (refine is_cond ?_; (first | refine aw_cond_t rfl rfl ?_ | refine aw_cond_f rfl rfl ?_)))) | refine thn_r ?_)
    exact ret_raw trivial rfl ⟨by rw [dec_small (by omega)], rfl⟩
  | succ n ih =>
    intro u h0 hu
    have d0 : decide ((u : Int) < 0) = false := decide_eq_false (by omega)
    by_cases h : u < 10
    · have d1 : decide ((u : Int) < 10) = true := decide_eq_true (by omega)
      refine con_of_aw (vars := [.tmp 2]) [(0, .r (rI (u : Int)))] [] 0 Tryd.func30 (by kernel_rfl) rfl Tryd.ntmps30 rfl (by decide) rfl rfl rfl rfl rfl ?_; intro B M w0 ρ0 Z0
      repeat' (first | (refine is_al ?_; (first | (refine is_gd ?_; refine al_off rfl rfl rfl (by assumption) rfl ?_) | (refine is_move ?_; refine al_v (opx_move (.raw _)) ⟨rfl, trivial⟩ trivial rfl ?_) | (refine is_bin ?_; (first | refine al_v opx_lss ⟨rfl, rfl, trivial⟩ trivial rfl ?_ | refine al_v (opx_add (by unfold InR; omega)) ⟨rfl, rfl, trivial⟩ trivial rfl ?_)) | (refine is_assign ?_; refine al_v (opx_assign (.raw _)) ⟨rfl, trivial⟩ trivial rfl ?_) | (refine is_pick ?_; refine al_v (opx_pick_f (.raw _) rfl) ⟨rfl, rfl, trivial⟩ trivial rfl ?_) | refine al_nil ?_ | refine al_v (opx_byte (k := 48 + u) (by omega) (by omega)) ⟨rfl, trivial⟩ trivial rfl ?_ | refine al_litB1 rfl rfl ?_ | refine al_v (opx_bstr_own (by kernel_rfl)) ⟨rfl, trivial⟩ ⟨rfl, trivial⟩ rfl ?_)) | (refine is_ad ?_; (first | refine al_v (opx_byte (k := 48 + u) (by omega) (by omega)) ⟨rfl, trivial⟩ trivial rfl ?_ | refine al_litB1 rfl rfl ?_ | refine al_v (opx_bstr_own (by kernel_rfl)) ⟨rfl, trivial⟩ ⟨rfl, trivial⟩ rfl ?_)) | (refine is_aw ?_; (first | refine aw_seq ?_ | refine aw_region ?_ | refine aw_skip ?_ | refine aw_ret ?_ | (refine is_cond ?_; (first | refine aw_cond_f rfl rfl ?_ | refine aw_cond_t rfl (by assumption) ?_)))) | refine thn_r ?_)
      exact ret_raw trivial rfl ⟨by rw [dec_small h], rfl⟩
    · have d1 : decide ((u : Int) < 10) = false := decide_eq_false (by omega)
      have hc := ih (u / 10) (by omega) (by omega)
      rw [show ((u / 10 : Nat) : Int) = (u : Int) / 10 by omega] at hc
      have hl := dec_len (u / 10) (u := u / 10) (Nat.le_refl _)
      refine con_of_aw (vars := [.tmp 2]) [(0, .r (rI (u : Int)))] [] 0 Tryd.func30 (by kernel_rfl) rfl Tryd.ntmps30 rfl (by decide) rfl rfl rfl rfl rfl ?_; intro B M w0 ρ0 Z0
      repeat' (first | (refine is_al ?_; (first | (refine is_gd ?_; refine al_off rfl rfl rfl (by assumption) rfl ?_) | (refine is_move ?_; refine al_v (opx_move (.raw _)) ⟨rfl, trivial⟩ trivial rfl ?_) | (refine is_bin ?_; refine al_v opx_lss ⟨rfl, rfl, trivial⟩ trivial rfl ?_) | (refine is_assign ?_; refine al_v (opx_assign (.raw _)) ⟨rfl, trivial⟩ trivial rfl ?_) | (refine is_pick ?_; refine al_v (opx_pick_f (.raw _) rfl) ⟨rfl, rfl, trivial⟩ trivial rfl ?_) | refine al_nil ?_ | refine ad_v (opx_byte (k := 48 + u % 10) (by omega) (by omega)) ⟨rfl, trivial⟩ trivial rfl ?_ | refine ad_litB1 rfl rfl ?_ | refine ad_v (opx_bstr_own (by kernel_rfl)) ⟨rfl, trivial⟩ ⟨rfl, trivial⟩ rfl ?_ | refine ad_v (opx_cat (by simp only [List.length_cons, List.length_nil]; omega)) ⟨rfl, rfl, trivial⟩ trivial rfl ?_)) | (refine is_ad ?_; (first | (refine isd_move ?_; refine ad_v (opx_move (.raw _)) ⟨rfl, trivial⟩ trivial rfl ?_) | (refine isd_bin ?_; (first | refine ad_v (opx_add (by unfold InR; omega)) ⟨rfl, rfl, trivial⟩ trivial rfl ?_ | refine ad_v (opx_quo (by unfold InR; omega) (by omega) (by omega)) ⟨rfl, rfl, trivial⟩ trivial rfl ?_ | refine ad_v (opx_rem (by omega) (by omega)) ⟨rfl, rfl, trivial⟩ trivial rfl ?_)) | (refine isd_assign ?_; refine ad_v (opx_assign (.raw _)) ⟨rfl, trivial⟩ trivial rfl ?_) | (refine isd_call ?_; refine ad_callF2 (by (repeat (first | exact .nil | refine .one rfl rfl ?_ | refine .froz rfl rfl ?_ | refine .rnil rfl ?_)); (first | done | fail)) rfl (hc) rfl ?_) | refine ad_nil (by kernel_rfl) ?_ | refine ad_v (opx_byte (k := 48 + u % 10) (by omega) (by omega)) ⟨rfl, trivial⟩ trivial rfl ?_ | refine ad_litB1 rfl rfl ?_ | refine ad_v (opx_bstr_own (by kernel_rfl)) ⟨rfl, trivial⟩ ⟨rfl, trivial⟩ rfl ?_ | refine ad_v (opx_cat (by simp only [List.length_cons, List.length_nil]; omega)) ⟨rfl, rfl, trivial⟩ trivial rfl ?_)) | (refine is_aw ?_; (first | refine aw_seq ?_ | refine aw_region ?_ | refine aw_skip ?_ | refine aw_ret ?_ | (refine is_cond ?_; (first | refine aw_cond_f rfl rfl ?_ | refine aw_cond_f rfl (by assumption) ?_)) | refine aw_draw mixed ?_)))
      exact ret_raw trivial rfl ⟨by rw [dec_big h], rfl⟩
theorem itoa_pos {u : Nat} : Lib.itoa (u : Int) = Lib.decDigits u := by
  rw [Lib.itoa, if_neg (by omega), Int.toNat_natCast]
theorem itoa_neg {u : Nat} (h : 0 < u) : Lib.itoa (-(u : Int)) = 45 :: Lib.decDigits u := by
  rw [Lib.itoa, if_pos (by omega)]
  congr 2
  omega
theorem c_decimal (n : Int) (h : -1000000000000 ≤ n ∧ n ≤ 1000000000000) : Con Tryd.prog 30 [rI n] [] (fun rs all => rs = [rStr (Lib.itoa n)] ∧ all = []) := by
  by_cases h0 : 0 ≤ n
  · obtain ⟨u, rfl⟩ : ∃ u : Nat, n = (u : Int) := ⟨n.toNat, by omega⟩
    rw [itoa_pos]
    exact c_decN u u (Nat.le_refl _) (by omega)
  · obtain ⟨u, rfl⟩ : ∃ u : Nat, n = -(u : Int) := ⟨n.natAbs, by omega⟩
    have hc := c_decN u u (Nat.le_refl _) (by omega)
    have hl := dec_len u (u := u) (Nat.le_refl _)
    have d0 : decide (-(u : Int) < 0) = true := decide_eq_true (by omega)
    have d1 : decide (-(u : Int) = (u : Int)) = false := decide_eq_false (by omega)
    refine con_of_aw (vars := [.tmp 2]) [(0, .r (rI (-(u : Int))))] [] 0 Tryd.func30 (by kernel_rfl) rfl Tryd.ntmps30 rfl (by decide) rfl rfl rfl rfl rfl ?_; intro B M w0 ρ0 Z0
    repeat' (first | (refine is_al ?_; (first | (refine is_gd ?_; refine al_on rfl rfl rfl (by assumption) ?_) | (refine is_move ?_; refine al_v (opx_move (.raw _)) ⟨rfl, trivial⟩ trivial rfl ?_) | (refine is_bin ?_; (first | refine al_v opx_eql ⟨rfl, rfl, trivial⟩ trivial rfl ?_ | refine al_v opx_lss ⟨rfl, rfl, trivial⟩ trivial rfl ?_)) | (refine is_assign ?_; refine al_v (opx_assign (.raw _)) ⟨rfl, trivial⟩ trivial rfl ?_) | (refine is_pick ?_; refine al_v (opx_pick_t (.raw _) (by assumption)) ⟨rfl, rfl, trivial⟩ trivial rfl ?_) | (refine is_call ?_; refine al_callF (by (repeat (first | exact .nil | refine .one rfl rfl ?_ | refine .froz rfl rfl ?_ | refine .rnil rfl ?_ | refine .agg rfl (by (repeat (first | exact .nil | refine .cons (.same rfl) ?_ | refine .cons (.froz rfl) ?_ | refine .cons (.rnil) ?_)); (first | done | fail)) ?_)); (first | done | fail)) rfl (hc) rfl ?_) | refine al_nil ?_ | refine al_v (opx_negE (r := (u : Int)) (by omega) (by unfold InR; omega)) ⟨rfl, trivial⟩ trivial rfl ?_ | refine al_v (opx_cat (by simp only [List.length_cons, List.length_nil]; omega)) ⟨rfl, rfl, trivial⟩ trivial rfl ?_)) | (refine is_ad ?_; (first | refine al_v (opx_negE (r := (u : Int)) (by omega) (by unfold InR; omega)) ⟨rfl, trivial⟩ trivial rfl ?_ | refine al_v (opx_cat (by simp only [List.length_cons, List.length_nil]; omega)) ⟨rfl, rfl, trivial⟩ trivial rfl ?_)) | (refine is_aw ?_; (first | refine aw_seq ?_ | refine aw_region ?_ | refine aw_skip ?_ | refine aw_ret ?_ | (refine is_cond ?_; (first | refine aw_cond_t rfl (by assumption) ?_ | refine aw_cond_f rfl (by assumption) ?_)))) | refine thn_r ?_)
    exact ret_raw trivial rfl ⟨by rw [itoa_neg (by omega)]; rfl, rfl⟩
/-! ### the text of a line -/
def lnT (l : List Lb) (t v : Int) : Str := txt l ++ [32] ++ Lib.itoa v ++ [32] ++ Lib.itoa t
noncomputable def lnB (l : List Lb) (t v : Int) : Bool := vlB l && decide (0 ≤ t ∧ t ≤ 1000 ∧ -1000 ≤ v ∧ v ≤ 1000)
noncomputable def lnF (l : List Lb) (t v : Int) : Str := if lnB l t v = true then lnT l t v else []
theorem itoa_len {n : Int} (h : -1000000 ≤ n ∧ n ≤ 1000000) : (Lib.itoa n).length ≤ 1000002 := by
  unfold Lib.itoa
  split
  · have := dec_len n.natAbs (u := n.natAbs) (Nat.le_refl _)
    rw [List.length_cons]; omega
  · have := dec_len n.toNat (u := n.toNat) (Nat.le_refl _)
    omega
theorem txt_len' {l : List Lb} (h : VL l) : (txt l).length ≤ 42 := by
  have := VL_jn h l.length
  rw [List.take_length] at this
  simp [txt]; omega
theorem c_FormatLine (l : List Lb) (t v : Int) (hL : ∀ x ∈ l, BIG x.1.length ∧ BIG x.2.length) (hl : BIG l.length) : Con Tryd.prog 13 [slL l, ptA t v] [] (fun rs all => rs = [rStr (lnF l t v)] ∧ all = []) := by
  have n1 : (!true) = false := rfl
  have n2 : (!false) = true := rfl
  have hcv := c_ValidLabels l hL hl
  have hcp := c_validPoint t v
  have hcf := c_FormatLabels l hL hl
  cases hv : vlB l
  · rw [hv] at hcv
    have e : lnF l t v = [] := by rw [lnF, lnB, hv]; rfl
    refine con_of_aw (vars := [.tmp 4]) [(0, .r (slL l)), (1, .r (ptA t v))] [] 0 Tryd.func13 (by kernel_rfl) rfl Tryd.ntmps13 rfl (by decide) rfl rfl rfl rfl rfl ?_; intro B M w0 ρ0 Z0
    repeat' (first | (refine is_al ?_; (first | (refine is_gd ?_; refine al_off rfl rfl rfl (by assumption) rfl ?_) | (refine is_move ?_; (first | refine al_v (opx_move (.raw _)) ⟨rfl, trivial⟩ trivial rfl ?_ | refine al_v (opx_move (.sl _ _)) ⟨rfl, trivial⟩ trivial rfl ?_)) | (refine is_assign ?_; refine al_v (opx_assign (.raw _)) ⟨rfl, trivial⟩ trivial rfl ?_) | (refine is_pick ?_; refine al_v (opx_pick_t (.raw _) rfl) ⟨rfl, rfl, trivial⟩ trivial rfl ?_) | (refine is_call ?_; refine al_callv2 (by (repeat (first | exact .nil | refine .one rfl rfl ?_ | refine .froz rfl rfl ?_ | refine .row rfl rfl ?_ | refine .rnil rfl ?_ | refine .agg rfl (by (repeat (first | exact .nil | refine .cons (.same rfl) ?_ | refine .cons (.froz rfl) ?_ | refine .cons (.rnil) ?_ | refine .cons (.row rfl rfl) ?_)); (first | done | fail)) ?_)); (first | done | fail)) rfl (hcv) rfl ?_) | refine al_v opx_not ⟨rfl, trivial⟩ trivial rfl ?_ | refine al_n opx_boxs ⟨rfl, trivial⟩ trivial rfl ?_ | refine al_nil ?_)) | (refine is_aw ?_; (first | refine aw_seq ?_ | refine aw_region ?_ | refine aw_ret ?_ | (refine is_cond ?_; refine aw_cond_t rfl rfl ?_))) | refine thn_r ?_)
    exact ret_raw trivial rfl ⟨by rw [e], rfl⟩
  · rw [hv] at hcv
    rw [fmt_t hv] at hcf
    by_cases hp : 0 ≤ t ∧ t ≤ 1000 ∧ -1000 ≤ v ∧ v ≤ 1000
    · rw [decide_eq_true hp] at hcp
      have e : lnF l t v = lnT l t v := by rw [lnF, lnB, hv, decide_eq_true hp]; rfl
      have l1 := txt_len' (vlB_of hv)
      have l2 := itoa_len (n := v) (by omega)
      have l3 := itoa_len (n := t) (by omega)
      refine con_of_aw (vars := [.tmp 4]) [(0, .r (slL l)), (1, .r (ptA t v))] [] 0 Tryd.func13 (by kernel_rfl) rfl Tryd.ntmps13 rfl (by decide) rfl rfl rfl rfl rfl ?_; intro B M w0 ρ0 Z0
      repeat' (first | (refine is_al ?_; (first | (refine is_gd ?_; refine al_on rfl rfl rfl (by assumption) ?_) | (refine is_move ?_; (first | refine al_v (opx_move (.raw _)) ⟨rfl, trivial⟩ trivial rfl ?_ | refine al_v (opx_move (.sl _ _)) ⟨rfl, trivial⟩ trivial rfl ?_)) | (refine is_load ?_; refine al_v opx_ld2_box ⟨rfl, trivial⟩ ⟨rfl, trivial⟩ rfl ?_) | (refine is_assign ?_; refine al_v (opx_assign (.raw _)) ⟨rfl, trivial⟩ trivial rfl ?_) | (refine is_pick ?_; refine al_v (opx_pick_f (.raw _) rfl) ⟨rfl, rfl, trivial⟩ trivial rfl ?_) | (refine is_call ?_; (first | refine al_callv2 (by (repeat (first | exact .nil | refine .one rfl rfl ?_ | refine .froz rfl rfl ?_ | refine .row rfl rfl ?_ | refine .rnil rfl ?_ | refine .agg rfl (by (repeat (first | exact .nil | refine .cons (.same rfl) ?_ | refine .cons (.froz rfl) ?_ | refine .cons (.rnil) ?_ | refine .cons (.row rfl rfl) ?_)); (first | done | fail)) ?_)); (first | done | fail)) rfl (hcv) rfl ?_ | refine al_callv2 (by (repeat (first | exact .nil | refine .one rfl rfl ?_ | refine .froz rfl rfl ?_ | refine .row rfl rfl ?_ | refine .rnil rfl ?_ | refine .agg rfl (by (repeat (first | exact .nil | refine .cons (.same rfl) ?_ | refine .cons (.froz rfl) ?_ | refine .cons (.rnil) ?_ | refine .cons (.row rfl rfl) ?_)); (first | done | fail)) ?_)); (first | done | fail)) rfl (hcp) rfl ?_)) | refine al_v opx_not ⟨rfl, trivial⟩ trivial rfl ?_ | refine al_n opx_boxs ⟨rfl, trivial⟩ trivial rfl ?_ | refine al_nil ?_ | refine ad_v (opx_cat (by simp only [List.length_append, List.length_cons, List.length_nil]; omega)) ⟨rfl, rfl, trivial⟩ trivial rfl ?_)) | (refine is_ad ?_; (first | (refine isd_move ?_; refine ad_v (opx_move (.sl _ _)) ⟨rfl, trivial⟩ trivial rfl ?_) | (refine isd_load ?_; refine ad_v (opx_ld_box rfl) ⟨rfl, trivial⟩ ⟨rfl, trivial⟩ rfl ?_) | (refine isd_fa ?_; refine ad_v opx_fa_ref ⟨rfl, trivial⟩ trivial rfl ?_) | (refine isd_assign ?_; refine ad_v (opx_assign (.raw _)) ⟨rfl, trivial⟩ trivial rfl ?_) | (refine isd_call ?_; (first | refine ad_callv2 (by (repeat (first | exact .nil | refine .one rfl rfl ?_ | refine .froz rfl rfl ?_ | refine .row rfl rfl ?_ | refine .rnil rfl ?_ | refine .agg rfl (by (repeat (first | exact .nil | refine .cons (.same rfl) ?_ | refine .cons (.froz rfl) ?_ | refine .cons (.rnil) ?_ | refine .cons (.row rfl rfl) ?_)); (first | done | fail)) ?_)); (first | done | fail)) rfl (hcf) rfl ?_ | refine ad_callv2 (by (repeat (first | exact .nil | refine .one rfl rfl ?_ | refine .froz rfl rfl ?_ | refine .row rfl rfl ?_ | refine .rnil rfl ?_ | refine .agg rfl (by (repeat (first | exact .nil | refine .cons (.same rfl) ?_ | refine .cons (.froz rfl) ?_ | refine .cons (.rnil) ?_ | refine .cons (.row rfl rfl) ?_)); (first | done | fail)) ?_)); (first | done | fail)) rfl (c_Itoa _ (by omega)) rfl ?_)) | refine ad_nil (by kernel_rfl) ?_ | refine ad_v (opx_cat (by simp only [List.length_append, List.length_cons, List.length_nil]; omega)) ⟨rfl, rfl, trivial⟩ trivial rfl ?_)) | (refine is_aw ?_; (first | refine aw_seq ?_ | refine aw_region ?_ | refine aw_skip ?_ | refine aw_ret ?_ | (refine is_cond ?_; refine aw_cond_f rfl rfl ?_) | refine aw_draw mixed ?_)))
      exact ret_raw trivial rfl ⟨by rw [e]; rfl, rfl⟩
    · rw [decide_eq_false hp] at hcp
      have e : lnF l t v = [] := by rw [lnF, lnB, decide_eq_false hp, Bool.and_false]; rfl
      refine con_of_aw (vars := [.tmp 4]) [(0, .r (slL l)), (1, .r (ptA t v))] [] 0 Tryd.func13 (by kernel_rfl) rfl Tryd.ntmps13 rfl (by decide) rfl rfl rfl rfl rfl ?_; intro B M w0 ρ0 Z0
      repeat' (first | (refine is_al ?_; (first | (refine is_gd ?_; refine al_on rfl rfl rfl (by assumption) ?_) | (refine is_move ?_; (first | refine al_v (opx_move (.raw _)) ⟨rfl, trivial⟩ trivial rfl ?_ | refine al_v (opx_move (.sl _ _)) ⟨rfl, trivial⟩ trivial rfl ?_)) | (refine is_load ?_; refine al_v opx_ld2_box ⟨rfl, trivial⟩ ⟨rfl, trivial⟩ rfl ?_) | (refine is_assign ?_; refine al_v (opx_assign (.raw _)) ⟨rfl, trivial⟩ trivial rfl ?_) | (refine is_pick ?_; refine al_v (opx_pick_f (.raw _) rfl) ⟨rfl, rfl, trivial⟩ trivial rfl ?_) | (refine is_call ?_; (first | refine al_callv2 (by (repeat (first | exact .nil | refine .one rfl rfl ?_ | refine .froz rfl rfl ?_ | refine .row rfl rfl ?_ | refine .rnil rfl ?_ | refine .agg rfl (by (repeat (first | exact .nil | refine .cons (.same rfl) ?_ | refine .cons (.froz rfl) ?_ | refine .cons (.rnil) ?_ | refine .cons (.row rfl rfl) ?_)); (first | done | fail)) ?_)); (first | done | fail)) rfl (hcv) rfl ?_ | refine al_callv2 (by (repeat (first | exact .nil | refine .one rfl rfl ?_ | refine .froz rfl rfl ?_ | refine .row rfl rfl ?_ | refine .rnil rfl ?_ | refine .agg rfl (by (repeat (first | exact .nil | refine .cons (.same rfl) ?_ | refine .cons (.froz rfl) ?_ | refine .cons (.rnil) ?_ | refine .cons (.row rfl rfl) ?_)); (first | done | fail)) ?_)); (first | done | fail)) rfl (hcp) rfl ?_)) | refine al_v opx_not ⟨rfl, trivial⟩ trivial rfl ?_ | refine al_n opx_boxs ⟨rfl, trivial⟩ trivial rfl ?_ | refine al_nil ?_)) | (refine is_aw ?_; (first | refine aw_seq ?_ | refine aw_region ?_ | refine aw_ret ?_ | (refine is_cond ?_; refine aw_cond_t rfl rfl ?_))) | refine thn_r ?_)
      exact ret_raw trivial rfl ⟨by rw [e], rfl⟩
theorem c_sFormatLine (l : List Lb) (t v : Int) (hL : ∀ x ∈ l, BIG x.1.length ∧ BIG x.2.length) (hl : BIG l.length) : Con Tryd.prog 10 [slL l, ptA t v] [] (fun rs all => rs = [rStr (lnF l t v)] ∧ all = []) := by
  have n1 : (!true) = false := rfl
  have n2 : (!false) = true := rfl
  have hcv := c_sValidLabels l hL hl
  have hcp := c_sValidPoint t v
  cases hv : vlB l
  · rw [hv] at hcv
    have e : lnF l t v = [] := by rw [lnF, lnB, hv]; rfl
    refine con_of_aw (vars := [.tmp 4]) [(0, .r (slL l)), (1, .r (ptA t v))] [] 0 Tryd.func10 (by kernel_rfl) rfl Tryd.ntmps10 rfl (by decide) rfl rfl rfl rfl rfl ?_; intro B M w0 ρ0 Z0
    repeat' (first | (refine is_al ?_; (first | (refine is_gd ?_; refine al_off rfl rfl rfl (by assumption) rfl ?_) | (refine is_move ?_; (first | refine al_v (opx_move (.raw _)) ⟨rfl, trivial⟩ trivial rfl ?_ | refine al_v (opx_move (.sl _ _)) ⟨rfl, trivial⟩ trivial rfl ?_)) | (refine is_assign ?_; refine al_v (opx_assign (.raw _)) ⟨rfl, trivial⟩ trivial rfl ?_) | (refine is_pick ?_; refine al_v (opx_pick_t (.raw _) rfl) ⟨rfl, rfl, trivial⟩ trivial rfl ?_) | (refine is_call ?_; refine al_callv2 (by (repeat (first | exact .nil | refine .one rfl rfl ?_ | refine .froz rfl rfl ?_ | refine .row rfl rfl ?_ | refine .rnil rfl ?_ | refine .agg rfl (by (repeat (first | exact .nil | refine .cons (.same rfl) ?_ | refine .cons (.froz rfl) ?_ | refine .cons (.rnil) ?_ | refine .cons (.row rfl rfl) ?_)); (first | done | fail)) ?_)); (first | done | fail)) rfl (hcv) rfl ?_) | refine al_v opx_not ⟨rfl, trivial⟩ trivial rfl ?_ | refine al_n opx_boxs ⟨rfl, trivial⟩ trivial rfl ?_ | refine al_nil ?_)) | (refine is_aw ?_; (first | refine aw_seq ?_ | refine aw_region ?_ | refine aw_ret ?_ | (refine is_cond ?_; refine aw_cond_t rfl rfl ?_))) | refine thn_r ?_)
    exact ret_raw trivial rfl ⟨by rw [e], rfl⟩
  · rw [hv] at hcv
    have hcf := c_labelsText l (vlB_of hv)
    by_cases hp : 0 ≤ t ∧ t ≤ 1000 ∧ -1000 ≤ v ∧ v ≤ 1000
    · rw [decide_eq_true hp] at hcp
      have e : lnF l t v = lnT l t v := by rw [lnF, lnB, hv, decide_eq_true hp]; rfl
      have l1 := txt_len' (vlB_of hv)
      have l2 := itoa_len (n := v) (by omega)
      have l3 := itoa_len (n := t) (by omega)
      refine con_of_aw (vars := [.tmp 4]) [(0, .r (slL l)), (1, .r (ptA t v))] [] 0 Tryd.func10 (by kernel_rfl) rfl Tryd.ntmps10 rfl (by decide) rfl rfl rfl rfl rfl ?_; intro B M w0 ρ0 Z0
      repeat' (first | (refine is_al ?_; (first | (refine is_gd ?_; refine al_on rfl rfl rfl (by assumption) ?_) | (refine is_move ?_; (first | refine al_v (opx_move (.raw _)) ⟨rfl, trivial⟩ trivial rfl ?_ | refine al_v (opx_move (.sl _ _)) ⟨rfl, trivial⟩ trivial rfl ?_)) | (refine is_load ?_; refine al_v opx_ld2_box ⟨rfl, trivial⟩ ⟨rfl, trivial⟩ rfl ?_) | (refine is_assign ?_; refine al_v (opx_assign (.raw _)) ⟨rfl, trivial⟩ trivial rfl ?_) | (refine is_pick ?_; refine al_v (opx_pick_f (.raw _) rfl) ⟨rfl, rfl, trivial⟩ trivial rfl ?_) | (refine is_call ?_; (first | refine al_callv2 (by (repeat (first | exact .nil | refine .one rfl rfl ?_ | refine .froz rfl rfl ?_ | refine .row rfl rfl ?_ | refine .rnil rfl ?_ | refine .agg rfl (by (repeat (first | exact .nil | refine .cons (.same rfl) ?_ | refine .cons (.froz rfl) ?_ | refine .cons (.rnil) ?_ | refine .cons (.row rfl rfl) ?_)); (first | done | fail)) ?_)); (first | done | fail)) rfl (hcv) rfl ?_ | refine al_callv2 (by (repeat (first | exact .nil | refine .one rfl rfl ?_ | refine .froz rfl rfl ?_ | refine .row rfl rfl ?_ | refine .rnil rfl ?_ | refine .agg rfl (by (repeat (first | exact .nil | refine .cons (.same rfl) ?_ | refine .cons (.froz rfl) ?_ | refine .cons (.rnil) ?_ | refine .cons (.row rfl rfl) ?_)); (first | done | fail)) ?_)); (first | done | fail)) rfl (hcp) rfl ?_)) | refine al_v opx_not ⟨rfl, trivial⟩ trivial rfl ?_ | refine al_n opx_boxs ⟨rfl, trivial⟩ trivial rfl ?_ | refine al_nil ?_ | refine ad_v (opx_cat (by simp only [List.length_append, List.length_cons, List.length_nil]; omega)) ⟨rfl, rfl, trivial⟩ trivial rfl ?_)) | (refine is_ad ?_; (first | (refine isd_move ?_; refine ad_v (opx_move (.sl _ _)) ⟨rfl, trivial⟩ trivial rfl ?_) | (refine isd_load ?_; refine ad_v (opx_ld_box rfl) ⟨rfl, trivial⟩ ⟨rfl, trivial⟩ rfl ?_) | (refine isd_fa ?_; refine ad_v opx_fa_ref ⟨rfl, trivial⟩ trivial rfl ?_) | (refine isd_assign ?_; refine ad_v (opx_assign (.raw _)) ⟨rfl, trivial⟩ trivial rfl ?_) | (refine isd_call ?_; (first | refine ad_callv2 (by (repeat (first | exact .nil | refine .one rfl rfl ?_ | refine .froz rfl rfl ?_ | refine .row rfl rfl ?_ | refine .rnil rfl ?_ | refine .agg rfl (by (repeat (first | exact .nil | refine .cons (.same rfl) ?_ | refine .cons (.froz rfl) ?_ | refine .cons (.rnil) ?_ | refine .cons (.row rfl rfl) ?_)); (first | done | fail)) ?_)); (first | done | fail)) rfl (hcf) rfl ?_ | refine ad_callv2 (by (repeat (first | exact .nil | refine .one rfl rfl ?_ | refine .froz rfl rfl ?_ | refine .row rfl rfl ?_ | refine .rnil rfl ?_ | refine .agg rfl (by (repeat (first | exact .nil | refine .cons (.same rfl) ?_ | refine .cons (.froz rfl) ?_ | refine .cons (.rnil) ?_ | refine .cons (.row rfl rfl) ?_)); (first | done | fail)) ?_)); (first | done | fail)) rfl (c_decimal _ (by omega)) rfl ?_)) | refine ad_nil (by kernel_rfl) ?_ | refine ad_v (opx_cat (by simp only [List.length_append, List.length_cons, List.length_nil]; omega)) ⟨rfl, rfl, trivial⟩ trivial rfl ?_)) | (refine is_aw ?_; (first | refine aw_seq ?_ | refine aw_region ?_ | refine aw_skip ?_ | refine aw_ret ?_ | (refine is_cond ?_; refine aw_cond_f rfl rfl ?_) | refine aw_draw mixed ?_)))
      exact ret_raw trivial rfl ⟨by rw [e]; rfl, rfl⟩
    · rw [decide_eq_false hp] at hcp
      have e : lnF l t v = [] := by rw [lnF, lnB, decide_eq_false hp, Bool.and_false]; rfl
      refine con_of_aw (vars := [.tmp 4]) [(0, .r (slL l)), (1, .r (ptA t v))] [] 0 Tryd.func10 (by kernel_rfl) rfl Tryd.ntmps10 rfl (by decide) rfl rfl rfl rfl rfl ?_; intro B M w0 ρ0 Z0
      repeat' (first | (refine is_al ?_; (first | (refine is_gd ?_; refine al_on rfl rfl rfl (by assumption) ?_) | (refine is_move ?_; (first | refine al_v (opx_move (.raw _)) ⟨rfl, trivial⟩ trivial rfl ?_ | refine al_v (opx_move (.sl _ _)) ⟨rfl, trivial⟩ trivial rfl ?_)) | (refine is_load ?_; refine al_v opx_ld2_box ⟨rfl, trivial⟩ ⟨rfl, trivial⟩ rfl ?_) | (refine is_assign ?_; refine al_v (opx_assign (.raw _)) ⟨rfl, trivial⟩ trivial rfl ?_) | (refine is_pick ?_; refine al_v (opx_pick_f (.raw _) rfl) ⟨rfl, rfl, trivial⟩ trivial rfl ?_) | (refine is_call ?_; (first | refine al_callv2 (by (repeat (first | exact .nil | refine .one rfl rfl ?_ | refine .froz rfl rfl ?_ | refine .row rfl rfl ?_ | refine .rnil rfl ?_ | refine .agg rfl (by (repeat (first | exact .nil | refine .cons (.same rfl) ?_ | refine .cons (.froz rfl) ?_ | refine .cons (.rnil) ?_ | refine .cons (.row rfl rfl) ?_)); (first | done | fail)) ?_)); (first | done | fail)) rfl (hcv) rfl ?_ | refine al_callv2 (by (repeat (first | exact .nil | refine .one rfl rfl ?_ | refine .froz rfl rfl ?_ | refine .row rfl rfl ?_ | refine .rnil rfl ?_ | refine .agg rfl (by (repeat (first | exact .nil | refine .cons (.same rfl) ?_ | refine .cons (.froz rfl) ?_ | refine .cons (.rnil) ?_ | refine .cons (.row rfl rfl) ?_)); (first | done | fail)) ?_)); (first | done | fail)) rfl (hcp) rfl ?_)) | refine al_v opx_not ⟨rfl, trivial⟩ trivial rfl ?_ | refine al_n opx_boxs ⟨rfl, trivial⟩ trivial rfl ?_ | refine al_nil ?_)) | (refine is_aw ?_; (first | refine aw_seq ?_ | refine aw_region ?_ | refine aw_ret ?_ | (refine is_cond ?_; refine aw_cond_t rfl rfl ?_))) | refine thn_r ?_)
      exact ret_raw trivial rfl ⟨by rw [e], rfl⟩
end Go.Proofs.YtllgddednlfhfaaDoor
