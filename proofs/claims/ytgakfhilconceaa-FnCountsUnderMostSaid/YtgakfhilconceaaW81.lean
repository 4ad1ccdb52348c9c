/-
  The greatest of all values: the law.
-/
import Derived.Test.YtgakfhilconceaaW80
import Derived.Test.YtgakfhilconceaaW5
namespace Go.Proofs.Ytgakfhilconceaa
open Go.RowKit
set_option linter.unusedVariables false
set_option linter.unusedSimpArgs false
attribute [local irreducible] AL AW OpX Le AD

theorem sort_get {l : List Int} (h : l ≠ []) {k : Nat} (hk : k < l.length) : (sortI l).getD k 0 ∈ l := by
  have hk' : k < (sortI l).length := by rw [sortI_len]; exact hk
  rw [List.getD, List.getElem?_eq_getElem hk']
  exact (List.mergeSort_perm _ _).mem_iff.1 (List.getElem_mem hk')
theorem sort_pw {l : List Int} : (sortI l).Pairwise fun x y => x ≤ y := by
  have := List.pairwise_mergeSort (le := fun (x y : Int) => decide (x ≤ y)) (fun a b c h1 h2 => by simp at h1 h2 ⊢; omega) (fun a b => by simp; omega) l
  exact this.imp fun h => by simpa using h
theorem sort_last {l : List Int} {x : Int} (hx : x ∈ l) : x ≤ (sortI l).getD (l.length - 1) 0 := by
  have hx' : x ∈ sortI l := (List.mergeSort_perm _ _).mem_iff.2 hx
  obtain ⟨k, hk⟩ := List.mem_iff_getElem?.1 hx'
  obtain ⟨h1, rfl⟩ := List.getElem?_eq_some_iff.1 hk
  have hl := sortI_len (ns := l)
  have h2 : l.length - 1 < (sortI l).length := by omega
  rw [List.getD, List.getElem?_eq_getElem h2]
  rcases Nat.lt_or_ge k (l.length - 1) with h | h
  · exact List.pairwise_iff_getElem.1 sort_pw k (l.length - 1) h1 h2 h
  · have : k = l.length - 1 := by omega
    subst this
    exact Int.le_refl _
theorem sort_first {l : List Int} {x : Int} (hx : x ∈ l) : (sortI l).getD 0 0 ≤ x := by
  have hx' : x ∈ sortI l := (List.mergeSort_perm _ _).mem_iff.2 hx
  obtain ⟨k, hk⟩ := List.mem_iff_getElem?.1 hx'
  obtain ⟨h1, rfl⟩ := List.getElem?_eq_some_iff.1 hk
  have h2 : 0 < (sortI l).length := by omega
  rw [List.getD, List.getElem?_eq_getElem h2]
  rcases Nat.eq_zero_or_pos k with h | h
  · subst h; exact Int.le_refl _
  · exact List.pairwise_iff_getElem.1 sort_pw 0 k h2 h1 h
theorem qnt_hi {ps : List Pt} (h0 : ps ≠ []) : (∀ p ∈ ps, p.2 ≤ qnt ps 100) ∧ ∃ p ∈ ps, p.2 = qnt ps 100 := by
  have hpos : 0 < ps.length := List.length_pos_iff.2 h0
  have e : ((100 * ((ps.length : Int) - 1) + 99) / 100).toNat = ps.length - 1 := by omega
  have hl : (ps.map (·.2)).length = ps.length := List.length_map _
  refine ⟨fun p hp => ?_, ?_⟩
  · rw [qnt, e, ← hl]
    exact sort_last (List.mem_map.2 ⟨p, hp, rfl⟩)
  · have := sort_get (l := ps.map (·.2)) (by simpa using h0) (k := ps.length - 1) (by omega)
    rw [qnt, e]
    exact List.mem_map.1 this
theorem qnt_lo {ps : List Pt} (h0 : ps ≠ []) : (∀ p ∈ ps, qnt ps 0 ≤ p.2) ∧ ∃ p ∈ ps, p.2 = qnt ps 0 := by
  have hpos : 0 < ps.length := List.length_pos_iff.2 h0
  have e : ((0 * ((ps.length : Int) - 1) + 99) / 100).toNat = 0 := by omega
  have hl : (ps.map (·.2)).length = ps.length := List.length_map _
  refine ⟨fun p hp => ?_, ?_⟩
  · rw [qnt, e]
    exact sort_first (List.mem_map.2 ⟨p, hp, rfl⟩)
  · have := sort_get (l := ps.map (·.2)) (by simpa using h0) (k := 0) (by omega)
    rw [qnt, e]
    exact List.mem_map.1 this
theorem most_all {ps : List Pt} (h16 : ps.length ≤ 16) (h0 : 0 < ps.length) : mmost ps 16 (ps.length - 1) = qnt ps 100 := by
  obtain ⟨h1, p, hp, h2⟩ := qnt_hi (ps := ps) (List.length_pos_iff.1 h0)
  obtain ⟨i, _, h3, h4⟩ := mmost_in (ps := ps) (w := 16) (k := ps.length - 1) (by omega)
  obtain ⟨q, hq⟩ : ∃ q, ps[i]? = some q := ⟨_, List.getElem?_eq_getElem (by omega)⟩
  have h5 := h1 q (List.mem_of_getElem? hq)
  rw [vAt_some hq] at h4
  obtain ⟨j, hj⟩ := List.mem_iff_getElem?.1 hp
  have hjl := (List.getElem?_eq_some_iff.1 hj).1
  have h6 := mmost_ge (ps := ps) (w := 16) (k := ps.length - 1) (i := j) (by omega) (by omega)
  rw [vAt_some hj] at h6
  omega
theorem most_up {ps : List Pt} {k : Nat} (h16 : k < 16) (h0 : 1 ≤ k) : mmost ps 16 (k - 1) ≤ mmost ps 16 k := by
  obtain ⟨i, _, h3, h4⟩ := mmost_in (ps := ps) (w := 16) (k := k - 1) (by omega)
  rw [h4]
  exact mmost_ge (by omega) (by omega)
theorem c_fnMovingMostAll (bs : List UInt8) : Con Try.prog 12 [slB bs] [] (fun rs all => rs = [rB true] ∧ all = []) := by
  have hlen := byRs_len (bs := bs)
  refine con_of_aw (vars := [.tmp 2]) [(0, .r (slB bs))] [] 0 Try.func12 (by kernel_rfl) rfl Try.ntmps12 rfl (by decide) rfl rfl rfl rfl rfl ?_
  intro B M w0 ρ0 Z0
  repeat' (first | (refine is_al ?_; (first | (refine is_move ?_; (first | refine al_v (opx_move (.raw _)) ⟨rfl, trivial⟩ trivial rfl ?_ | refine al_v (opx_move (.sl _ _)) ⟨rfl, trivial⟩ trivial rfl ?_ | refine al_v (opx_move (.tup _)) ⟨rfl, trivial⟩ trivial rfl ?_)) | (refine is_bin ?_; refine al_v opx_gtr ⟨rfl, rfl, trivial⟩ trivial rfl ?_) | (refine is_assign ?_; (first | refine al_v (opx_assign (.raw _)) ⟨rfl, trivial⟩ trivial rfl ?_ | refine al_v (opx_assign (.sl _ _)) ⟨rfl, trivial⟩ trivial rfl ?_)) | (refine is_bi ?_; refine al_v opx_len_sl ⟨rfl, trivial⟩ trivial rfl ?_) | (refine is_call ?_; (refine al_callE (by (repeat (first | exact .nil | refine .one rfl rfl ?_ | refine .froz rfl rfl ?_ | refine .rnil rfl ?_ | refine .agg rfl (by (repeat (first | exact .nil | refine .cons (.same rfl) ?_ | refine .cons (.froz rfl) ?_ | refine .cons (.rnil) ?_)); (first | done | fail)) ?_)); (first | done | fail)) rfl (c_drawMovingMost' _ (by omega)) ?_; rintro ⟨ps, w⟩ ⟨h1, h2, h3, h4⟩; dsimp only at h1 h2 h3 h4 ⊢)) | refine al_v (opx_extract _ rfl) ⟨rfl, trivial⟩ trivial rfl ?_ | refine al_nil ?_)) | (refine is_aw ?_; (first | refine aw_seq ?_ | refine aw_region ?_ | refine aw_skip ?_ | refine aw_ret ?_ | (refine is_cond ?_; (refine aw_cond rfl ?_ ?_ <;> ((intro hgd; try exact absurd hgd (by decide)); (try (have hz := hgd; simp only [decide_eq_true_eq, decide_eq_false_iff_not, Bool.not_eq_true', Bool.not_eq_false', Bool.not_true, Bool.not_false, beq_iff_eq, Int.not_le, Int.not_lt] at hz)); (try (exfalso; omega))))))) | refine thn_r ?_)
  · exact ret_raw trivial rfl ⟨congrArg (fun b => [rB b]) (rfl), rfl⟩
  clear hz hlen; repeat clear hgd
  have hE : (!decide (mmosts ps w = mmosts ps w)) = false := by simp
  have hE2 : decide (mmosts ps w = mmosts ps w) = true := by simp
  have hl1 := mmosts_len (ps := ps) (w := w)
  have hr1 := inRs_len (ns := mmosts ps w)
  have hr4 := ptRs_len (ps := ps)
  by_cases hps : ps.length = 0
  · have d1 : decide (((ptRs ps).length : Int) = 0) = true := decide_eq_true (by omega)
    repeat' (first | (refine is_al ?_; (first | (refine is_gd ?_; (first | refine al_on rfl rfl rfl (by assumption) ?_ | refine al_off rfl rfl rfl (by assumption) rfl ?_)) | (refine is_move ?_; (first | refine al_v (opx_move (.raw _)) ⟨rfl, trivial⟩ trivial rfl ?_ | refine al_v (opx_move (.sl _ _)) ⟨rfl, trivial⟩ trivial rfl ?_)) | (refine is_bin ?_; refine al_v opx_eql ⟨rfl, rfl, trivial⟩ trivial rfl ?_) | (refine is_assign ?_; (first | refine al_v (opx_assign (.raw _)) ⟨rfl, trivial⟩ trivial rfl ?_ | refine al_v (opx_assign (.sl _ _)) ⟨rfl, trivial⟩ trivial rfl ?_)) | (refine is_pick ?_; (first | refine al_v (opx_pick_t (.raw _) (by assumption)) ⟨rfl, rfl, trivial⟩ trivial rfl ?_ | refine al_v (opx_pick_f (.raw _) (by assumption)) ⟨rfl, rfl, trivial⟩ trivial rfl ?_)) | (refine is_bi ?_; refine al_v opx_len_sl ⟨rfl, trivial⟩ trivial rfl ?_) | (refine is_call ?_; (first | refine al_callF (by (repeat (first | exact .nil | refine .one rfl rfl ?_ | refine .froz rfl rfl ?_ | refine .rnil rfl ?_ | refine .agg rfl (by (repeat (first | exact .nil | refine .cons (.same rfl) ?_ | refine .cons (.froz rfl) ?_ | refine .cons (.rnil) ?_)); (first | done | fail)) ?_)); (first | done | fail)) rfl (c_movingMost' _ _) rfl ?_ | refine al_callF (by (repeat (first | exact .nil | refine .one rfl rfl ?_ | refine .froz rfl rfl ?_ | refine .rnil rfl ?_ | refine .agg rfl (by (repeat (first | exact .nil | refine .cons (.same rfl) ?_ | refine .cons (.froz rfl) ?_ | refine .cons (.rnil) ?_)); (first | done | fail)) ?_)); (first | done | fail)) rfl (c_sMovingMost' _ _ (by omega)) rfl ?_ | refine al_callv2 (by (repeat (first | exact .nil | refine .one rfl rfl ?_ | refine .froz rfl rfl ?_ | refine .row rfl rfl ?_ | refine .rnil rfl ?_ | refine .agg rfl (by (repeat (first | exact .nil | refine .cons (.same rfl) ?_ | refine .cons (.froz rfl) ?_ | refine .cons (.rnil) ?_ | refine .cons (.row rfl rfl) ?_)); (first | done | fail)) ?_)); (first | done | fail)) rfl (c_equalInts _ _ (by omega)) rfl ?_)) | refine al_v opx_not ⟨rfl, trivial⟩ trivial rfl ?_ | refine al_nil ?_)) | (refine is_aw ?_; (first | refine aw_seq ?_ | refine aw_region ?_ | refine aw_ret ?_ | (refine is_cond ?_; refine aw_cond_t rfl rfl ?_))) | refine thn_r ?_)
    exact ret_raw trivial rfl ⟨congrArg (fun b => [rB b]) (hE2), rfl⟩
  have d1 : decide (((ptRs ps).length : Int) = 0) = false := decide_eq_false (by omega)
  by_cases hout : (mmosts ps w).length = 0
  · have d2 : decide (((inRs (mmosts ps w)).length : Int) = 0) = true := decide_eq_true (by omega)
    repeat' (first | (refine is_al ?_; (first | (refine is_gd ?_; refine al_on rfl rfl rfl (by assumption) ?_) | (refine is_move ?_; (first | refine al_v (opx_move (.raw _)) ⟨rfl, trivial⟩ trivial rfl ?_ | refine al_v (opx_move (.sl _ _)) ⟨rfl, trivial⟩ trivial rfl ?_)) | (refine is_bin ?_; refine al_v opx_eql ⟨rfl, rfl, trivial⟩ trivial rfl ?_) | (refine is_assign ?_; (first | refine al_v (opx_assign (.raw _)) ⟨rfl, trivial⟩ trivial rfl ?_ | refine al_v (opx_assign (.sl _ _)) ⟨rfl, trivial⟩ trivial rfl ?_)) | (refine is_pick ?_; refine al_v (opx_pick_f (.raw _) (by assumption)) ⟨rfl, rfl, trivial⟩ trivial rfl ?_) | (refine is_bi ?_; refine al_v opx_len_sl ⟨rfl, trivial⟩ trivial rfl ?_) | (refine is_call ?_; (first | refine al_callF (by (repeat (first | exact .nil | refine .one rfl rfl ?_ | refine .froz rfl rfl ?_ | refine .rnil rfl ?_ | refine .agg rfl (by (repeat (first | exact .nil | refine .cons (.same rfl) ?_ | refine .cons (.froz rfl) ?_ | refine .cons (.rnil) ?_)); (first | done | fail)) ?_)); (first | done | fail)) rfl (c_movingMost' _ _) rfl ?_ | refine al_callF (by (repeat (first | exact .nil | refine .one rfl rfl ?_ | refine .froz rfl rfl ?_ | refine .rnil rfl ?_ | refine .agg rfl (by (repeat (first | exact .nil | refine .cons (.same rfl) ?_ | refine .cons (.froz rfl) ?_ | refine .cons (.rnil) ?_)); (first | done | fail)) ?_)); (first | done | fail)) rfl (c_sMovingMost' _ _ (by omega)) rfl ?_ | refine al_callv2 (by (repeat (first | exact .nil | refine .one rfl rfl ?_ | refine .froz rfl rfl ?_ | refine .row rfl rfl ?_ | refine .rnil rfl ?_ | refine .agg rfl (by (repeat (first | exact .nil | refine .cons (.same rfl) ?_ | refine .cons (.froz rfl) ?_ | refine .cons (.rnil) ?_ | refine .cons (.row rfl rfl) ?_)); (first | done | fail)) ?_)); (first | done | fail)) rfl (c_equalInts _ _ (by omega)) rfl ?_)) | refine al_v opx_not ⟨rfl, trivial⟩ trivial rfl ?_ | refine al_nil ?_)) | (refine is_aw ?_; (first | refine aw_seq ?_ | refine aw_region ?_ | refine aw_ret ?_ | (refine is_cond ?_; refine aw_cond_t rfl (by assumption) ?_))) | refine thn_r ?_)
    exact ret_raw trivial rfl ⟨congrArg (fun b => [rB b]) (hE2), rfl⟩
  have d2 : decide (((inRs (mmosts ps w)).length : Int) = 0) = false := decide_eq_false (by omega)
  obtain ⟨hvs, hw1, hw2, hl⟩ := mmosts_ok (ps := ps) (w := w) (by omega)
  have h16 := hvs.1
  have hne : ps ≠ [] := List.length_pos_iff.1 (by omega)
  have hal : (mmosts ps 16).length = ps.length := by
    rcases Nat.eq_zero_or_pos (mmosts ps 16).length with h | h
    · have h5 : (mmosts ps 16)[0]? = some (mmost ps 16 0) := mmosts_at hvs (w := 16) (k := 0) (by omega) (by omega)
      have := (List.getElem?_eq_some_iff.1 h5).1
      omega
    · exact (mmosts_ok (ps := ps) (w := 16) (by omega)).2.2.2
  have hr2 := inRs_len (ns := mmosts ps 16)
  repeat' (first | (refine is_al ?_; (first | (refine is_gd ?_; refine al_on rfl rfl rfl (by assumption) ?_) | (refine is_move ?_; (first | refine al_v (opx_move (.raw _)) ⟨rfl, trivial⟩ trivial rfl ?_ | refine al_v (opx_move (.sl _ _)) ⟨rfl, trivial⟩ trivial rfl ?_)) | (refine is_bin ?_; refine al_v opx_eql ⟨rfl, rfl, trivial⟩ trivial rfl ?_) | (refine is_assign ?_; (first | refine al_v (opx_assign (.raw _)) ⟨rfl, trivial⟩ trivial rfl ?_ | refine al_v (opx_assign (.sl _ _)) ⟨rfl, trivial⟩ trivial rfl ?_)) | (refine is_pick ?_; refine al_v (opx_pick_f (.raw _) (by assumption)) ⟨rfl, rfl, trivial⟩ trivial rfl ?_) | (refine is_bi ?_; refine al_v opx_len_sl ⟨rfl, trivial⟩ trivial rfl ?_) | (refine is_call ?_; (first | refine al_callF (by (repeat (first | exact .nil | refine .one rfl rfl ?_ | refine .froz rfl rfl ?_ | refine .rnil rfl ?_ | refine .agg rfl (by (repeat (first | exact .nil | refine .cons (.same rfl) ?_ | refine .cons (.froz rfl) ?_ | refine .cons (.rnil) ?_)); (first | done | fail)) ?_)); (first | done | fail)) rfl (c_movingMost' _ _) rfl ?_ | refine al_callF (by (repeat (first | exact .nil | refine .one rfl rfl ?_ | refine .froz rfl rfl ?_ | refine .rnil rfl ?_ | refine .agg rfl (by (repeat (first | exact .nil | refine .cons (.same rfl) ?_ | refine .cons (.froz rfl) ?_ | refine .cons (.rnil) ?_)); (first | done | fail)) ?_)); (first | done | fail)) rfl (c_sMovingMost' _ _ (by omega)) rfl ?_ | refine al_callv2 (by (repeat (first | exact .nil | refine .one rfl rfl ?_ | refine .froz rfl rfl ?_ | refine .row rfl rfl ?_ | refine .rnil rfl ?_ | refine .agg rfl (by (repeat (first | exact .nil | refine .cons (.same rfl) ?_ | refine .cons (.froz rfl) ?_ | refine .cons (.rnil) ?_ | refine .cons (.row rfl rfl) ?_)); (first | done | fail)) ?_)); (first | done | fail)) rfl (c_equalInts _ _ (by omega)) rfl ?_)) | refine al_v opx_not ⟨rfl, trivial⟩ trivial rfl ?_ | refine al_nil ?_)) | (refine is_aw ?_; (first | refine aw_seq ?_ | refine aw_region ?_ | refine aw_skip ?_ | refine aw_block ?_ | (refine is_cond ?_; refine aw_cond_f rfl (by assumption) ?_))))
  refine aw_loop (γ := Nat) (fun k => [(2, .b false), (3, .r (slP ps)), (6, .r (slI (mmosts ps 16))), (7, .i (k : Int))]) (fun _ => []) (fun _ => 0)
    (fun k => 1 ≤ k ∧ k ≤ ps.length) (fun k => ps.length - k) 1 ⟨Nat.le_refl _, by omega⟩ (le_mk [] rfl rfl rfl rfl ⟨rfl, rfl, rfl, rfl, trivial⟩ trivial) ?_
  rintro k ⟨hk1, hk⟩
  rcases Nat.lt_or_ge k ps.length with hlt | hge
  · have hc : decide ((k : Int) < ((inRs (mmosts ps 16)).length : Int)) = true := decide_eq_true (by omega)
    have hx := inRs_at (show (mmosts ps 16)[k]? = some (mmost ps 16 k) from mmosts_at hvs (w := 16) (k := k) (by omega) hlt)
    have hy := inRs_at (show (mmosts ps 16)[k - 1]? = some (mmost ps 16 (k - 1)) from mmosts_at hvs (w := 16) (k := k - 1) (by omega) (by omega))
    have hup := most_up (ps := ps) (k := k) (by omega) hk1
    have d3 : decide (mmost ps 16 k < mmost ps 16 (k - 1)) = false := decide_eq_false (by omega)
    repeat' (first | (refine is_al ?_; (first | (refine is_move ?_; (first | refine al_v (opx_move (.raw _)) ⟨rfl, trivial⟩ trivial rfl ?_ | refine al_v (opx_move (.sl _ _)) ⟨rfl, trivial⟩ trivial rfl ?_)) | (refine is_bin ?_; (first | refine al_v opx_lss ⟨rfl, rfl, trivial⟩ trivial rfl ?_ | refine al_v (opx_add (by unfold InR; omega)) ⟨rfl, rfl, trivial⟩ trivial rfl ?_)) | (refine is_assign ?_; refine al_v (opx_assign (.raw _)) ⟨rfl, trivial⟩ trivial rfl ?_) | (refine is_bi ?_; refine al_v opx_len_sl ⟨rfl, trivial⟩ trivial rfl ?_) | refine al_nil ?_)) | (refine is_ad ?_; (first | (refine isd_move ?_; (first | refine ad_v (opx_move (.raw _)) ⟨rfl, trivial⟩ trivial rfl ?_ | refine ad_v (opx_move (.sl _ _)) ⟨rfl, trivial⟩ trivial rfl ?_)) | (refine isd_bin ?_; (first | refine ad_v opx_lss ⟨rfl, rfl, trivial⟩ trivial rfl ?_ | refine ad_v (opx_sub (by unfold InR; omega)) ⟨rfl, rfl, trivial⟩ trivial rfl ?_)) | (refine isd_load ?_; refine ad_v opx_ld_imm ⟨rfl, trivial⟩ trivial rfl ?_) | (refine isd_ia ?_; (first | refine ad_v (opx_ia_sl2 hx (by omega)) ⟨rfl, rfl, trivial⟩ trivial rfl ?_ | refine ad_v (opx_ia_sl2 hy (by omega)) ⟨rfl, rfl, trivial⟩ trivial rfl ?_)) | refine ad_nil (by kernel_rfl) ?_)) | (refine is_aw ?_; (first | refine aw_seq ?_ | refine aw_region ?_ | refine aw_skip ?_ | refine aw_block ?_ | (refine is_cond ?_; (first | refine aw_cond_t rfl (by assumption) ?_ | refine aw_cond_f rfl (by assumption) ?_)) | refine aw_draw mixed ?_)) | refine thn_n ?_)
    exact ⟨k + 1, ⟨by omega, hlt⟩, by omega, le_mk [] rfl rfl rfl rfl ⟨rfl, rfl, rfl, rfl, trivial⟩ trivial⟩
  · have hc : decide ((k : Int) < ((inRs (mmosts ps 16)).length : Int)) = false := decide_eq_false (by omega)
    have hz := inRs_at (show (mmosts ps 16)[ps.length - 1]? = some (mmost ps 16 (ps.length - 1)) from mmosts_at hvs (w := 16) (k := ps.length - 1) (by omega) (by omega))
    have t0 : true = true := rfl
    have d4 : decide (((inRs (mmosts ps 16)).length : Int) = ((ptRs ps).length : Int)) = true := decide_eq_true (by omega)
    have d5 := most_all h16 (by omega)
    have d6 : decide (mmost ps 16 (ps.length - 1) = qnt ps 100) = true := decide_eq_true d5
    repeat' (first | (refine is_al ?_; (first | (refine is_gd ?_; refine al_on rfl rfl rfl (by assumption) ?_) | (refine is_move ?_; (first | refine al_v (opx_move (.raw _)) ⟨rfl, trivial⟩ trivial rfl ?_ | refine al_v (opx_move (.sl _ _)) ⟨rfl, trivial⟩ trivial rfl ?_ | refine al_v (opx_move (.tup _)) ⟨rfl, trivial⟩ trivial rfl ?_)) | (refine is_bin ?_; (first | refine al_v opx_eql ⟨rfl, rfl, trivial⟩ trivial rfl ?_ | refine al_v opx_lss ⟨rfl, rfl, trivial⟩ trivial rfl ?_ | refine al_v (opx_sub (by unfold InR; omega)) ⟨rfl, rfl, trivial⟩ trivial rfl ?_)) | (refine is_load ?_; refine al_v opx_ld_imm ⟨rfl, trivial⟩ trivial rfl ?_) | (refine is_assign ?_; refine al_v (opx_assign (.raw _)) ⟨rfl, trivial⟩ trivial rfl ?_) | (refine is_pick ?_; (first | refine al_v (opx_pick_t (.raw _) rfl) ⟨rfl, rfl, trivial⟩ trivial rfl ?_ | refine al_v (opx_pick_t (.raw _) (by assumption)) ⟨rfl, rfl, trivial⟩ trivial rfl ?_)) | (refine is_bi ?_; refine al_v opx_len_sl ⟨rfl, trivial⟩ trivial rfl ?_) | (refine is_ia ?_; refine al_v (opx_ia_sl2 hz (by omega)) ⟨rfl, rfl, trivial⟩ trivial rfl ?_) | (refine is_call ?_; refine al_callF (by (repeat (first | exact .nil | refine .one rfl rfl ?_ | refine .froz rfl rfl ?_ | refine .rnil rfl ?_ | refine .agg rfl (by (repeat (first | exact .nil | refine .cons (.same rfl) ?_ | refine .cons (.froz rfl) ?_ | refine .cons (.rnil) ?_)); (first | done | fail)) ?_)); (first | done | fail)) rfl (c_QuantileOver ps 100 hvs hne (.inr rfl)) rfl ?_) | refine al_v (opx_extract _ rfl) ⟨rfl, trivial⟩ trivial rfl ?_ | refine al_nil ?_)) | (refine is_aw ?_; (first | refine aw_seq ?_ | refine aw_region ?_ | refine aw_ret ?_ | refine aw_exit ?_ | (refine is_cond ?_; refine aw_cond_f rfl (by assumption) ?_))))
    exact ret_raw trivial rfl ⟨congrArg (fun b => [rB b]) (d6), rfl⟩
end Go.Proofs.Ytgakfhilconceaa
