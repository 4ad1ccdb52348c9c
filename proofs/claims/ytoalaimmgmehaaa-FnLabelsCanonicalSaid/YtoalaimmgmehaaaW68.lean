/-
  Labels: the reference's parsing, whole.
-/
import Derived.Test.YtoalaimmgmehaaaW67
namespace Go.Proofs.Ytoalaimmgmehaaa
open Go.RowKit
set_option linter.unusedVariables false
set_option linter.unusedSimpArgs false
attribute [local irreducible] AL AW OpX Le AD

theorem spl_mem {c : UInt8} : ∀ (n : Nat) {s : Str}, s.length ≤ n → ∀ p ∈ spl c s, c ∉ p
  | n, s, hn, p, hp => by
    by_cases h : c ∈ s
    · obtain ⟨x, r, rfl, hx⟩ := cut_at h
      rw [spl_cut hx] at hp
      rcases List.mem_cons.1 hp with rfl | hp
      · exact hx
      · cases n with
        | zero => simp at hn
        | succ n => exact spl_mem n (by simp at hn; omega) p hp
    · rw [spl_none h] at hp
      rcases List.mem_cons.1 hp with rfl | hp
      · exact h
      · cases hp
theorem spl2 {s a b : Str} (h : spl 61 s = [a, b]) : s = eqt (a, b) ∧ (61 : UInt8) ∉ a ∧ (61 : UInt8) ∉ b := by
  have h1 := jn_spl (c := 61) s.length (s := s) (Nat.le_refl _)
  have h2 := spl_mem (c := 61) s.length (s := s) (Nat.le_refl _)
  rw [h] at h1 h2
  exact ⟨h1.symm, h2 a (by simp), h2 b (by simp)⟩
theorem no_two {s x : Str} {l : List Lb} {part : Str} {ps : List Str} (hs : ins s = x) (hi : x ≠ []) (h : spl 44 x = l.map eqt ++ part :: ps) (hb : (spl 61 part).length ≠ 2) : ∀ m, ¬ IsT s m := by
  intro m hm
  obtain ⟨h1, h2⟩ := IsT_parts hm (by rw [hs]; exact hi)
  rw [hs, h] at h1
  have : part ∈ m.map eqt := by rw [← h1]; simp
  obtain ⟨y, hy, rfl⟩ := List.mem_map.1 this
  obtain ⟨a1, a2⟩ := VL_mem h2 hy
  have e : spl 61 (eqt y) = [y.1, y.2] := by
    rw [eqt, spl_cut (vw_not a1 (by decide)), spl_none (vw_not a2 (by decide))]
  rw [e] at hb
  exact hb rfl
theorem spl_len {c : UInt8} : ∀ (n : Nat) {s : Str}, s.length ≤ n → (spl c s).length ≤ s.length + 1
  | n, s, hn => by
    by_cases h : c ∈ s
    · obtain ⟨x, r, rfl, hx⟩ := cut_at h
      rw [spl_cut hx]
      have hl : (x ++ c :: r).length = x.length + (r.length + 1) := by rw [List.length_append, List.length_cons]
      cases n with
      | zero => omega
      | succ n => have := spl_len (c := c) n (s := r) (by omega); rw [List.length_cons]; omega
    · rw [spl_none h]; simp
theorem spl_le {c : UInt8} : ∀ (n : Nat) {s : Str}, s.length ≤ n → ∀ p ∈ spl c s, p.length ≤ s.length
  | n, s, hn, p, hp => by
    by_cases h : c ∈ s
    · obtain ⟨x, r, rfl, hx⟩ := cut_at h
      have hl : (x ++ c :: r).length = x.length + (r.length + 1) := by rw [List.length_append, List.length_cons]
      rw [spl_cut hx] at hp
      rcases List.mem_cons.1 hp with rfl | hp
      · omega
      · cases n with
        | zero => omega
        | succ n => have := spl_le (c := c) n (s := r) (by omega) p hp; omega
    · rw [spl_none h] at hp
      rcases List.mem_cons.1 hp with rfl | hp
      · exact Nat.le_refl _
      · cases hp
abbrev PLp (s : Str) (rs : List AR) (all : List OB) : Prop := rs = [.one (.own 0), rB (prsB s)] ∧ all = [.row 2 60 (lbRs (prsL s))]
theorem c_sPL1 (x : Str) (hx0 : x ≠ []) (hX : x.length ≤ 100000000) : Con Try.prog 48 [rStr (123 :: (x ++ [125]))] [] (PLp (123 :: (x ++ [125]))) := by
  have n1 : (!true) = false := rfl
  have n2 : (!false) = true := rfl
  have hxl : (123 :: (x ++ [125]) : Str).length = x.length + 2 := by rw [List.length_cons, List.length_append]; rfl
  have d1 : decide (((123 :: (x ++ [125]) : Str).length : Int) < 2) = false := decide_eq_false (by omega)
  have hf : (123 :: (x ++ [125]) : Str)[0]? = some 123 := rfl
  have hla : (123 :: (x ++ [125]) : Str)[x.length + 1]? = some 125 := by simp
  have hin : ((123 :: (x ++ [125]) : Str).take (x.length + 1)).drop 1 = x := by rw [List.take_succ_cons, List.drop_succ_cons, List.drop_zero, List.take_left']; rfl
  have q2 : decide ((123 :: (x ++ [125]) : Str) = [123, 125]) = false := decide_eq_false fun h => hx0 (by
    have := congrArg ins h
    rw [ins_mk] at this
    exact this)
  refine con_of_aw (vars := [.tmp 2, .tmp 3]) [(0, .r (rStr (123 :: (x ++ [125]))))] [] 0 Try.func48 (by kernel_rfl) rfl Try.ntmps48 rfl (by decide) rfl rfl rfl rfl rfl ?_
  intro B M w0 ρ0 Z0
  have hlp := stRs_len (xs := spl 44 x)
  repeat' (first | (refine is_al ?_; (first | (refine is_gd ?_; refine al_on rfl rfl rfl (by assumption) ?_) | (refine is_move ?_; refine al_v (opx_move (.raw _)) ⟨rfl, trivial⟩ trivial rfl ?_) | (refine is_bin ?_; (first | refine al_v opx_neq ⟨rfl, rfl, trivial⟩ trivial rfl ?_ | refine al_v opx_lss ⟨rfl, rfl, trivial⟩ trivial rfl ?_ | refine al_v (opx_sub (by unfold InR; omega)) ⟨rfl, rfl, trivial⟩ trivial rfl ?_ | refine al_v opx_seql ⟨rfl, rfl, trivial⟩ trivial rfl ?_)) | (refine is_assign ?_; (first | refine al_v (opx_assign (.raw _)) ⟨rfl, trivial⟩ trivial rfl ?_ | refine al_v (opx_assign (.sl _ _)) ⟨rfl, trivial⟩ trivial rfl ?_ | refine al_v (opx_assign (.own _)) ⟨rfl, trivial⟩ trivial rfl ?_)) | (refine is_pick ?_; (first | refine al_v (opx_pick_f (.raw _) rfl) ⟨rfl, rfl, trivial⟩ trivial rfl ?_ | refine al_v (opx_pick_f (.raw _) (by assumption)) ⟨rfl, rfl, trivial⟩ trivial rfl ?_)) | (refine is_bi ?_; refine al_v opx_len_str ⟨rfl, trivial⟩ trivial rfl ?_) | (refine is_call ?_; refine al_callF (by (repeat (first | exact .nil | refine .one rfl rfl ?_ | refine .froz rfl rfl ?_ | refine .rnil rfl ?_ | refine .agg rfl (by (repeat (first | exact .nil | refine .cons (.same rfl) ?_ | refine .cons (.froz rfl) ?_ | refine .cons (.rnil) ?_)); (first | done | fail)) ?_)); (first | done | fail)) rfl (c_splitAt' x 44 (by omega)) rfl ?_) | (refine is_bs ?_; refine al_n opx_lit0 trivial trivial rfl ?_) | refine al_nil ?_ | refine al_v (opx_sidx (k := 0) rfl hf) ⟨rfl, rfl, trivial⟩ trivial rfl ?_ | refine al_v (opx_sidx (k := x.length + 1) (by omega) hla) ⟨rfl, rfl, trivial⟩ trivial rfl ?_ | refine al_v (opx_cutLH_str (l := 1) (h := x.length + 1) hin rfl (by omega) (by omega)) ⟨rfl, rfl, rfl, trivial⟩ trivial rfl ?_)) | (refine is_ad ?_; (first | refine al_v (opx_sidx (k := 0) rfl hf) ⟨rfl, rfl, trivial⟩ trivial rfl ?_ | refine al_v (opx_sidx (k := x.length + 1) (by omega) hla) ⟨rfl, rfl, trivial⟩ trivial rfl ?_ | refine al_v (opx_cutLH_str (l := 1) (h := x.length + 1) hin rfl (by omega) (by omega)) ⟨rfl, rfl, rfl, trivial⟩ trivial rfl ?_)) | (refine is_aw ?_; (first | refine aw_seq ?_ | refine aw_region ?_ | refine aw_skip ?_ | refine aw_block ?_ | (refine is_cond ?_; (first | refine aw_cond_f rfl rfl ?_ | refine aw_cond_f rfl (by assumption) ?_)))))
  refine aw_loop (γ := List Lb × Nat) (fun g => [(4, .own 0), (5, .sl 1 (stRs (spl 44 x))), (6, .i (g.2 : Int))]) (fun g => [(0, .row 2 60 (lbRs g.1))]) (fun _ => 1)
    (fun g => g.2 ≤ (spl 44 x).length ∧ (spl 44 x).take g.2 = g.1.map eqt ∧ (∀ y ∈ g.1, (61 : UInt8) ∉ y.1) ∧ (∀ y ∈ g.1, y.1.length ≤ x.length ∧ y.2.length ≤ x.length) ∧ g.1.length = g.2) (fun g => (spl 44 x).length - g.2) ([], 0) ⟨Nat.zero_le _, rfl, fun y hy => (by cases hy), fun y hy => (by cases hy), rfl⟩ (le_mk [0] rfl rfl rfl rfl ⟨rfl, rfl, rfl, trivial⟩ ⟨rfl, trivial⟩) ?_
  rintro ⟨l, k⟩ ⟨h1, h2, h3, h4, h5⟩
  dsimp only at h1 h2 h3 h4 h5 ⊢
  have hlr := lbRs_len (xs := l)
  have hpl : (spl 44 x).length ≤ x.length + 1 := spl_len x.length (Nat.le_refl _)
  rcases Nat.lt_or_ge k (spl 44 x).length with hlt | hge
  · have hc1 : decide ((k : Int) < ((stRs (spl 44 x)).length : Int)) = true := decide_eq_true (by omega)
    obtain ⟨part, hp⟩ : ∃ part, (spl 44 x)[k]? = some part := ⟨_, List.getElem?_eq_getElem hlt⟩
    have hpr := stRs_at hp
    have hsp : spl 44 x = l.map eqt ++ part :: (spl 44 x).drop (k + 1) := by
      obtain ⟨_, rfl⟩ := List.getElem?_eq_some_iff.1 hp
      rw [← h2, ← List.drop_eq_getElem_cons hlt, List.take_append_drop]
    have hpx := spl_le x.length (s := x) (Nat.le_refl _) part (List.mem_of_getElem? hp)
    have hl2 := stRs_len (xs := spl 61 part)
    by_cases hb : (spl 61 part).length = 2
    · obtain ⟨a, b, hab⟩ : ∃ a b, spl 61 part = [a, b] := by
        match h : spl 61 part, hb with
        | [a, b], _ => exact ⟨a, b, rfl⟩
      obtain ⟨e1, e2, e3⟩ := spl2 hab
      have e4 := eqt_len (x := (a, b))
      rw [← e1] at e4
      dsimp only at e4
      have d2 : (!decide (((stRs [a, b]).length : Int) = 2)) = false := rfl
      have hs := c_splitAt' part 61 (by omega)
      rw [hab] at hs
      have i0 : (stRs [a, b])[0]? = some (stR a) := rfl
      have i1 : (stRs [a, b])[1]? = some (stR b) := rfl
      have ht : (spl 44 x).take (k + 1) = (l ++ [(a, b)]).map eqt := by rw [List.take_add_one, hp, h2, List.map_append]; rw [e1]; rfl
      repeat' (first | (refine is_al ?_; (first | (refine is_move ?_; (first | refine al_v (opx_move (.raw _)) ⟨rfl, trivial⟩ trivial rfl ?_ | refine al_v (opx_move (.sl _ _)) ⟨rfl, trivial⟩ trivial rfl ?_)) | (refine is_bin ?_; (first | refine al_v opx_neq ⟨rfl, rfl, trivial⟩ trivial rfl ?_ | refine al_v opx_lss ⟨rfl, rfl, trivial⟩ trivial rfl ?_ | refine al_v (opx_add (by unfold InR; omega)) ⟨rfl, rfl, trivial⟩ trivial rfl ?_)) | (refine is_load ?_; refine al_v opx_ld_imm ⟨rfl, trivial⟩ trivial rfl ?_) | (refine is_assign ?_; (first | refine al_v (opx_assign (.raw _)) ⟨rfl, trivial⟩ trivial rfl ?_ | refine al_v (opx_assign (.sl _ _)) ⟨rfl, trivial⟩ trivial rfl ?_)) | (refine is_bi ?_; refine al_v opx_len_sl ⟨rfl, trivial⟩ trivial rfl ?_) | (refine is_ia ?_; refine al_v (opx_ia_sl2 hpr (by omega)) ⟨rfl, rfl, trivial⟩ trivial rfl ?_) | (refine is_call ?_; refine al_callF (by (repeat (first | exact .nil | refine .one rfl rfl ?_ | refine .froz rfl rfl ?_ | refine .rnil rfl ?_ | refine .agg rfl (by (repeat (first | exact .nil | refine .cons (.same rfl) ?_ | refine .cons (.froz rfl) ?_ | refine .cons (.rnil) ?_)); (first | done | fail)) ?_)); (first | done | fail)) rfl (hs) rfl ?_) | refine al_nil ?_)) | (refine is_ad ?_; (first | (refine isd_move ?_; (first | refine ad_v (opx_move (.sl _ _)) ⟨rfl, trivial⟩ trivial rfl ?_ | refine ad_v (opx_move (.own _)) ⟨rfl, trivial⟩ trivial rfl ?_)) | (refine isd_load ?_; refine ad_v opx_ld_imm ⟨rfl, trivial⟩ trivial rfl ?_) | (refine isd_assign ?_; refine ad_v (opx_assign (.own _)) ⟨rfl, trivial⟩ trivial rfl ?_) | (refine isd_ia ?_; (first | refine ad_v (opx_ia_sl2 i0 (by omega)) ⟨rfl, rfl, trivial⟩ trivial rfl ?_ | refine ad_v (opx_ia_sl2 i1 (by omega)) ⟨rfl, rfl, trivial⟩ trivial rfl ?_)) | refine ad_v (opx_build2 (res := [_, _]) rfl) ⟨rfl, rfl, trivial⟩ trivial rfl ?_ | (refine isd_bs ?_; refine ad_pushL ⟨rfl, trivial⟩ rfl rfl rfl rfl rfl (by omega) ?_) | refine ad_nil (by kernel_rfl) ?_)) | (refine is_aw ?_; (first | refine aw_seq ?_ | refine aw_region ?_ | refine aw_skip ?_ | refine aw_block ?_ | (refine is_cond ?_; (first | refine aw_cond_f rfl rfl ?_ | refine aw_cond_t rfl (by assumption) ?_)) | refine aw_draw mixed ?_)) | refine thn_n ?_)
      exact ⟨(l ++ [(a, b)], k + 1), ⟨hlt, ht, all_snoc h3 e2, all_snoc h4 ⟨by dsimp only; omega, by dsimp only; omega⟩, by rw [List.length_append, List.length_singleton]; dsimp only; omega⟩, by dsimp only; omega, le_mk [_] rfl rfl rfl rfl ⟨rfl, rfl, rfl, trivial⟩ ⟨rfl, trivial⟩⟩
    · have d2 : (!decide (((stRs (spl 61 part)).length : Int) = 2)) = true := by rw [decide_eq_false (by omega)]; rfl
      obtain ⟨f1, f2⟩ := prs_f (no_two ins_mk hx0 hsp hb)
      repeat' (first | (refine is_al ?_; (first | (refine is_move ?_; (first | refine al_v (opx_move (.raw _)) ⟨rfl, trivial⟩ trivial rfl ?_ | refine al_v (opx_move (.sl _ _)) ⟨rfl, trivial⟩ trivial rfl ?_)) | (refine is_bin ?_; (first | refine al_v opx_neq ⟨rfl, rfl, trivial⟩ trivial rfl ?_ | refine al_v opx_lss ⟨rfl, rfl, trivial⟩ trivial rfl ?_)) | (refine is_load ?_; refine al_v opx_ld_imm ⟨rfl, trivial⟩ trivial rfl ?_) | (refine is_assign ?_; (first | refine al_v (opx_assign (.raw _)) ⟨rfl, trivial⟩ trivial rfl ?_ | refine al_v (opx_assign (.sl _ _)) ⟨rfl, trivial⟩ trivial rfl ?_)) | (refine is_bi ?_; refine al_v opx_len_sl ⟨rfl, trivial⟩ trivial rfl ?_) | (refine is_ia ?_; refine al_v (opx_ia_sl2 hpr (by omega)) ⟨rfl, rfl, trivial⟩ trivial rfl ?_) | (refine is_call ?_; refine al_callF (by (repeat (first | exact .nil | refine .one rfl rfl ?_ | refine .froz rfl rfl ?_ | refine .rnil rfl ?_ | refine .agg rfl (by (repeat (first | exact .nil | refine .cons (.same rfl) ?_ | refine .cons (.froz rfl) ?_ | refine .cons (.rnil) ?_)); (first | done | fail)) ?_)); (first | done | fail)) rfl (c_splitAt' part 61 (by omega)) rfl ?_) | refine al_nil ?_)) | (refine is_aw ?_; (first | refine aw_seq ?_ | refine aw_region ?_ | refine aw_skip ?_ | refine aw_block ?_ | (refine is_cond ?_; refine aw_cond_t rfl (by assumption) ?_))) | refine thn_n ?_)
      refine aw_le (le_ownNil 2 2 60 rfl) ?_
      repeat' (first | (refine is_aw ?_; refine aw_ret ?_) | refine thn_r ?_ | refine inb_r ?_)
      exact ret_row_raw trivial rfl rfl rfl ⟨by rw [f1], by rw [f2]; rfl⟩
  · have hc1 : decide ((k : Int) < ((stRs (spl 44 x)).length : Int)) = false := decide_eq_false (by omega)
    rw [List.take_of_length_le hge] at h2
    have hcv := c_sValidLabels l (fun y hy => by have := h4 y hy; exact ⟨by unfold BIG; omega, by unfold BIG; omega⟩) (by unfold BIG; omega)
    cases hv : vlB l
    · rw [hv] at hcv
      obtain ⟨f1, f2⟩ := prs_f (no_valid ins_mk hx0 h2 h3 (vlB_of_f hv))
      repeat' (first | (refine is_al ?_; (first | (refine is_move ?_; (first | refine al_v (opx_move (.raw _)) ⟨rfl, trivial⟩ trivial rfl ?_ | refine al_v (opx_move (.sl _ _)) ⟨rfl, trivial⟩ trivial rfl ?_ | refine al_v (opx_move (.own _)) ⟨rfl, trivial⟩ trivial rfl ?_)) | (refine is_bin ?_; refine al_v opx_lss ⟨rfl, rfl, trivial⟩ trivial rfl ?_) | (refine is_assign ?_; refine al_v (opx_assign (.raw _)) ⟨rfl, trivial⟩ trivial rfl ?_) | (refine is_bi ?_; refine al_v opx_len_sl ⟨rfl, trivial⟩ trivial rfl ?_) | (refine is_call ?_; refine al_callv2 (by (repeat (first | exact .nil | refine .one rfl rfl ?_ | refine .froz rfl rfl ?_ | refine .row rfl rfl ?_ | refine .rnil rfl ?_ | refine .agg rfl (by (repeat (first | exact .nil | refine .cons (.same rfl) ?_ | refine .cons (.froz rfl) ?_ | refine .cons (.rnil) ?_ | refine .cons (.row rfl rfl) ?_)); (first | done | fail)) ?_)); (first | done | fail)) rfl (hcv) rfl ?_) | refine al_v opx_not ⟨rfl, trivial⟩ trivial rfl ?_ | refine al_nil ?_)) | (refine is_aw ?_; (first | refine aw_seq ?_ | refine aw_region ?_ | refine aw_exit ?_ | (refine is_cond ?_; (first | refine aw_cond_t rfl rfl ?_ | refine aw_cond_f rfl (by assumption) ?_)))) | refine thn_n ?_)
      refine aw_le (le_ownNil 2 2 60 rfl) ?_
      repeat' (first | (refine is_aw ?_; refine aw_ret ?_) | refine thn_r ?_)
      exact ret_row_raw trivial rfl rfl rfl ⟨by rw [f1], by rw [f2]; rfl⟩
    · rw [hv] at hcv
      obtain ⟨f1, f2⟩ := prs_t (IsT_mk (s := 123 :: (x ++ [125])) (by rw [ins_mk]) (by rw [ins_mk]; exact hx0) (by rw [ins_mk, h2]) (vlB_of hv))
      repeat' (first | (refine is_al ?_; (first | (refine is_move ?_; (first | refine al_v (opx_move (.raw _)) ⟨rfl, trivial⟩ trivial rfl ?_ | refine al_v (opx_move (.sl _ _)) ⟨rfl, trivial⟩ trivial rfl ?_ | refine al_v (opx_move (.own _)) ⟨rfl, trivial⟩ trivial rfl ?_)) | (refine is_bin ?_; refine al_v opx_lss ⟨rfl, rfl, trivial⟩ trivial rfl ?_) | (refine is_assign ?_; (first | refine al_v (opx_assign (.raw _)) ⟨rfl, trivial⟩ trivial rfl ?_ | refine al_v (opx_assign (.own _)) ⟨rfl, trivial⟩ trivial rfl ?_)) | (refine is_bi ?_; refine al_v opx_len_sl ⟨rfl, trivial⟩ trivial rfl ?_) | (refine is_call ?_; refine al_callv2 (by (repeat (first | exact .nil | refine .one rfl rfl ?_ | refine .froz rfl rfl ?_ | refine .row rfl rfl ?_ | refine .rnil rfl ?_ | refine .agg rfl (by (repeat (first | exact .nil | refine .cons (.same rfl) ?_ | refine .cons (.froz rfl) ?_ | refine .cons (.rnil) ?_ | refine .cons (.row rfl rfl) ?_)); (first | done | fail)) ?_)); (first | done | fail)) rfl (hcv) rfl ?_) | refine al_v opx_not ⟨rfl, trivial⟩ trivial rfl ?_ | refine al_nil ?_)) | (refine is_aw ?_; (first | refine aw_seq ?_ | refine aw_region ?_ | refine aw_skip ?_ | refine aw_ret ?_ | refine aw_exit ?_ | (refine is_cond ?_; (first | refine aw_cond_f rfl rfl ?_ | refine aw_cond_f rfl (by assumption) ?_)))))
      exact ret_row_raw trivial rfl rfl rfl ⟨by rw [f1], by rw [f2]⟩
end Go.Proofs.Ytoalaimmgmehaaa
