/-
  Parsing labels: the program's walk.
-/
import Derived.Test.YtoalaimmgmehaaaW64
namespace Go.Proofs.Ytoalaimmgmehaaa
open Go.RowKit
set_option linter.unusedVariables false
set_option linter.unusedSimpArgs false
attribute [local irreducible] AL AW OpX Le AD

theorem ins_mk {x : Str} : ins (123 :: (x ++ [125])) = x := by
  unfold ins
  rw [List.length_cons, List.length_append, List.length_singleton, Nat.add_sub_cancel, List.take_succ_cons, List.drop_succ_cons, List.drop_zero, List.take_left']
  rfl
/-- A part without an equals sign, or a fifth part: no labels have the text. -/
theorem no_part {s x : Str} {l : List Lb} {part : Str} {ps : List Str} (hs : ins s = x) (hi : x ≠ []) (h : spl 44 x = l.map eqt ++ part :: ps) (hb : (61 : UInt8) ∉ part ∨ l.length = 4) : ∀ m, ¬ IsT s m := by
  intro m hm
  obtain ⟨h1, h2⟩ := IsT_parts hm (by rw [hs]; exact hi)
  rw [hs, h] at h1
  rcases hb with hb | hb
  · have : part ∈ m.map eqt := by rw [← h1]; simp
    obtain ⟨x, _, rfl⟩ := List.mem_map.1 this
    exact hb (by simp [eqt])
  · have := congrArg List.length h1
    simp only [List.length_append, List.length_map, List.length_cons] at this
    have := h2.1
    omega
theorem no_valid {s x : Str} {l : List Lb} (hs : ins s = x) (hi : x ≠ []) (h : spl 44 x = l.map eqt) (hn : ∀ y ∈ l, (61 : UInt8) ∉ y.1) (hv : ¬ VL l) : ∀ m, ¬ IsT s m := by
  intro m hm
  obtain ⟨h1, h2⟩ := IsT_parts hm (by rw [hs]; exact hi)
  rw [hs, h] at h1
  rw [eqts_inj hn (VL_eq h2) h1] at hv
  exact hv h2
theorem cut_comma (rest : Str) (h : BIG rest.length) : ∃ (part rest' : Str) (more : Bool), Con Try.prog 51 [rStr rest, rStr [44]] [] (fun rs all => rs = [rStr part, rStr rest', rB more] ∧ all = []) ∧
    spl 44 rest = part :: (if more = true then spl 44 rest' else []) ∧ part.length ≤ rest.length ∧ rest'.length ≤ rest.length ∧ (more = true → rest'.length < rest.length) := by
  by_cases hc : (44 : UInt8) ∈ rest
  · obtain ⟨x, r, rfl, hx⟩ := cut_at hc
    have hl : (x ++ 44 :: r).length = x.length + (r.length + 1) := by rw [List.length_append, List.length_cons]
    exact ⟨x, r, true, c_Cut_t x r 44 hx (by unfold BIG at h; omega), by rw [spl_cut hx]; rfl, by omega, by omega, fun _ => by omega⟩
  · exact ⟨rest, [], false, c_Cut_f rest 44 hc, by rw [spl_none hc]; rfl, Nat.le_refl _, Nat.zero_le _, fun h => by cases h⟩
/-- How far the reading is. -/
def RdP (x : Str) (l : List Lb) (rest : Str) (more : Bool) : Prop :=
  ((x = [] ∧ l = [] ∧ more = false) ∨ (x ≠ [] ∧ spl 44 x = l.map eqt ++ (if more = true then spl 44 rest else []))) ∧ (∀ y ∈ l, (61 : UInt8) ∉ y.1) ∧ (∀ y ∈ l, y.1.length ≤ x.length ∧ y.2.length ≤ x.length) ∧ l.length ≤ 4 ∧ rest.length ≤ x.length
theorem prs_nil {s : Str} (h : ¬ ∃ x, s = 123 :: (x ++ [125])) : ∀ l, ¬ IsT s l := fun l hl => h ⟨_, IsT_shape hl⟩
set_option maxHeartbeats 4000000 in
theorem c_PL1 (x : Str) (hX : x.length ≤ 8000000000000000000) : Con Try.prog 20 [rStr (123 :: (x ++ [125]))] [] (fun rs all => rs = [.one (.own 0), rB (prsB (123 :: (x ++ [125])))] ∧ all = [.row 2 60 (lbRs (prsL (123 :: (x ++ [125]))))]) := by
  have n1 : (!true) = false := rfl
  have n2 : (!false) = true := rfl
  refine con_of_aw (vars := [.tmp 2, .tmp 3]) [(0, .r (rStr (123 :: (x ++ [125]))))] [] 0 Try.func20 (by kernel_rfl) rfl Try.ntmps20 rfl (by decide) rfl rfl rfl rfl rfl ?_
  intro B M w0 ρ0 Z0
  repeat' (first | (refine is_al ?_; (first | (refine is_gd ?_; refine al_on rfl rfl rfl (by assumption) ?_) | (refine is_move ?_; (first | refine al_v (opx_move (.raw _)) ⟨rfl, trivial⟩ trivial rfl ?_ | refine al_v (opx_move (.tup _)) ⟨rfl, trivial⟩ trivial rfl ?_)) | (refine is_bin ?_; refine al_v opx_sneq ⟨rfl, rfl, trivial⟩ trivial rfl ?_) | (refine is_assign ?_; refine al_v (opx_assign (.raw _)) ⟨rfl, trivial⟩ trivial rfl ?_) | (refine is_pick ?_; refine al_v (opx_pick_f (.raw _) rfl) ⟨rfl, rfl, trivial⟩ trivial rfl ?_) | (refine is_call ?_; (first | refine al_callF (by (repeat (first | exact .nil | refine .one rfl rfl ?_ | refine .froz rfl rfl ?_ | refine .rnil rfl ?_ | refine .agg rfl (by (repeat (first | exact .nil | refine .cons (.same rfl) ?_ | refine .cons (.froz rfl) ?_ | refine .cons (.rnil) ?_)); (first | done | fail)) ?_)); (first | done | fail)) rfl (c_CutPrefix_t 123 (x ++ [125])) rfl ?_ | refine al_callF (by (repeat (first | exact .nil | refine .one rfl rfl ?_ | refine .froz rfl rfl ?_ | refine .rnil rfl ?_ | refine .agg rfl (by (repeat (first | exact .nil | refine .cons (.same rfl) ?_ | refine .cons (.froz rfl) ?_ | refine .cons (.rnil) ?_)); (first | done | fail)) ?_)); (first | done | fail)) rfl (c_CutSuffix_t 125 x (by omega)) rfl ?_)) | refine al_v opx_not ⟨rfl, trivial⟩ trivial rfl ?_ | refine al_v (opx_extract _ rfl) ⟨rfl, trivial⟩ trivial rfl ?_ | refine al_nil ?_)) | (refine is_aw ?_; (first | refine aw_seq ?_ | refine aw_region ?_ | refine aw_skip ?_ | refine aw_block ?_ | (refine is_cond ?_; refine aw_cond_f rfl rfl ?_))))
  refine aw_le (le_ownNil 7 2 60 rfl) ?_
  refine aw_loop (γ := List Lb × Str × Bool) (fun g => [(7, .own 0), (8, .str g.2.1), (9, .b g.2.2)]) (fun g => [(0, .row 2 60 (lbRs g.1))]) (fun _ => 1)
    (fun g => RdP x g.1 g.2.1 g.2.2) (fun g => if g.2.2 = true then g.2.1.length + 1 else 0) ([], x, !decide (x = [])) ⟨by
      by_cases h : x = []
      · exact .inl ⟨h, rfl, by rw [decide_eq_true h]; rfl⟩
      · exact .inr ⟨h, by rw [decide_eq_false h]; rfl⟩, fun y hy => (by cases hy), fun y hy => (by cases hy), Nat.zero_le _, Nat.le_refl _⟩ (le_mk [0] rfl rfl rfl rfl ⟨rfl, rfl, rfl, trivial⟩ ⟨rfl, trivial⟩) ?_
  rintro ⟨l, rest, more⟩ ⟨h1, h2, h3, h4, h5⟩
  dsimp only at h1 h2 h3 h4 h5 ⊢
  have hlr := lbRs_len (xs := l)
  cases more with
  | true =>
    obtain ⟨hx0, hsp⟩ : x ≠ [] ∧ spl 44 x = l.map eqt ++ spl 44 rest := by
      rcases h1 with ⟨_, _, h⟩ | h
      · cases h
      · exact h
    obtain ⟨part, rest', more', hcut, hsp2, p1, p2, p3⟩ := cut_comma rest (by unfold BIG; omega)
    rw [hsp2] at hsp
    by_cases he : (61 : UInt8) ∈ part
    · obtain ⟨nm, v, rfl, hn⟩ := cut_at he
      have hpl : (nm ++ 61 :: v).length = nm.length + (v.length + 1) := by rw [List.length_append, List.length_cons]
      have hcut2 := c_Cut_t nm v 61 hn (by omega)
      by_cases h44 : l.length = 4
      · have d1 : decide (((lbRs l).length : Int) = 4) = true := decide_eq_true (by omega)
        obtain ⟨f1, f2⟩ := prs_f (no_part ins_mk hx0 hsp (.inr h44))
        repeat' (first | (refine is_al ?_; (first | (refine is_gd ?_; refine al_on rfl rfl rfl (by assumption) ?_) | (refine is_move ?_; (first | refine al_v (opx_move (.raw _)) ⟨rfl, trivial⟩ trivial rfl ?_ | refine al_v (opx_move (.own _)) ⟨rfl, trivial⟩ trivial rfl ?_ | refine al_v (opx_move (.tup _)) ⟨rfl, trivial⟩ trivial rfl ?_)) | (refine is_bin ?_; refine al_v opx_eql ⟨rfl, rfl, trivial⟩ trivial rfl ?_) | (refine is_assign ?_; refine al_v (opx_assign (.raw _)) ⟨rfl, trivial⟩ trivial rfl ?_) | (refine is_pick ?_; refine al_v (opx_pick_f (.raw _) rfl) ⟨rfl, rfl, trivial⟩ trivial rfl ?_) | (refine is_bi ?_; refine al_v opx_len_own ⟨rfl, trivial⟩ ⟨rfl, trivial⟩ rfl ?_) | (refine is_call ?_; (first | refine al_callF (by (repeat (first | exact .nil | refine .one rfl rfl ?_ | refine .froz rfl rfl ?_ | refine .rnil rfl ?_ | refine .agg rfl (by (repeat (first | exact .nil | refine .cons (.same rfl) ?_ | refine .cons (.froz rfl) ?_ | refine .cons (.rnil) ?_)); (first | done | fail)) ?_)); (first | done | fail)) rfl (hcut) rfl ?_ | refine al_callF (by (repeat (first | exact .nil | refine .one rfl rfl ?_ | refine .froz rfl rfl ?_ | refine .rnil rfl ?_ | refine .agg rfl (by (repeat (first | exact .nil | refine .cons (.same rfl) ?_ | refine .cons (.froz rfl) ?_ | refine .cons (.rnil) ?_)); (first | done | fail)) ?_)); (first | done | fail)) rfl (hcut2) rfl ?_)) | refine al_v opx_not ⟨rfl, trivial⟩ trivial rfl ?_ | refine al_v (opx_extract _ rfl) ⟨rfl, trivial⟩ trivial rfl ?_ | refine al_nil ?_)) | (refine is_aw ?_; (first | refine aw_seq ?_ | refine aw_region ?_ | refine aw_skip ?_ | refine aw_block ?_ | (refine is_cond ?_; (first | refine aw_cond_t rfl rfl ?_ | refine aw_cond_t rfl (by assumption) ?_)))) | refine thn_n ?_)
        refine aw_le (le_ownNil 2 2 60 rfl) ?_
        repeat' (first | (refine is_aw ?_; refine aw_ret ?_) | refine thn_r ?_ | refine inb_r ?_)
        exact ret_row_raw trivial rfl rfl rfl ⟨by rw [f1], by rw [f2]; rfl⟩
      · have d1 : decide (((lbRs l).length : Int) = 4) = false := decide_eq_false (by omega)
        repeat' (first | (refine is_al ?_; (first | (refine is_gd ?_; refine al_on rfl rfl rfl (by assumption) ?_) | (refine is_move ?_; (first | refine al_v (opx_move (.raw _)) ⟨rfl, trivial⟩ trivial rfl ?_ | refine al_v (opx_move (.own _)) ⟨rfl, trivial⟩ trivial rfl ?_ | refine al_v (opx_move (.tup _)) ⟨rfl, trivial⟩ trivial rfl ?_)) | (refine is_bin ?_; refine al_v opx_eql ⟨rfl, rfl, trivial⟩ trivial rfl ?_) | (refine is_assign ?_; (first | refine al_v (opx_assign (.raw _)) ⟨rfl, trivial⟩ trivial rfl ?_ | refine al_v (opx_assign (.own _)) ⟨rfl, trivial⟩ trivial rfl ?_)) | (refine is_pick ?_; refine al_v (opx_pick_f (.raw _) rfl) ⟨rfl, rfl, trivial⟩ trivial rfl ?_) | (refine is_bi ?_; refine al_v opx_len_own ⟨rfl, trivial⟩ ⟨rfl, trivial⟩ rfl ?_) | (refine is_call ?_; (first | refine al_callF (by (repeat (first | exact .nil | refine .one rfl rfl ?_ | refine .froz rfl rfl ?_ | refine .rnil rfl ?_ | refine .agg rfl (by (repeat (first | exact .nil | refine .cons (.same rfl) ?_ | refine .cons (.froz rfl) ?_ | refine .cons (.rnil) ?_)); (first | done | fail)) ?_)); (first | done | fail)) rfl (hcut) rfl ?_ | refine al_callF (by (repeat (first | exact .nil | refine .one rfl rfl ?_ | refine .froz rfl rfl ?_ | refine .rnil rfl ?_ | refine .agg rfl (by (repeat (first | exact .nil | refine .cons (.same rfl) ?_ | refine .cons (.froz rfl) ?_ | refine .cons (.rnil) ?_)); (first | done | fail)) ?_)); (first | done | fail)) rfl (hcut2) rfl ?_)) | refine al_v opx_not ⟨rfl, trivial⟩ trivial rfl ?_ | refine al_v (opx_extract _ rfl) ⟨rfl, trivial⟩ trivial rfl ?_ | refine al_v (opx_build2 (res := [_, _]) rfl) ⟨rfl, rfl, trivial⟩ trivial rfl ?_ | (refine is_bs ?_; refine al_pushL ⟨rfl, trivial⟩ rfl rfl rfl rfl rfl (by omega) ?_) | refine al_nil ?_)) | (refine is_aw ?_; (first | refine aw_seq ?_ | refine aw_region ?_ | refine aw_skip ?_ | refine aw_block ?_ | (refine is_cond ?_; (first | refine aw_cond_t rfl rfl ?_ | refine aw_cond_f rfl (by assumption) ?_)))) | refine thn_n ?_ | refine inb_n ?_)
        refine ⟨(l ++ [(nm, v)], rest', more'), ⟨.inr ⟨hx0, by rw [hsp, List.map_append, List.append_assoc]; rfl⟩, all_snoc h2 hn, all_snoc h3 ⟨by dsimp only; omega, by dsimp only; omega⟩, by rw [List.length_append, List.length_singleton]; omega, by dsimp only; omega⟩, ?_, le_mk [_] rfl rfl rfl rfl ⟨rfl, rfl, rfl, trivial⟩ ⟨rfl, trivial⟩⟩
        dsimp only
        cases more' with
        | true => have := p3 rfl; simp only [if_true]; omega
        | false => simp
    · have hcut2 := c_Cut_f part 61 he
      obtain ⟨f1, f2⟩ := prs_f (no_part ins_mk hx0 hsp (.inl he))
      repeat' (first | (refine is_al ?_; (first | (refine is_gd ?_; refine al_off rfl rfl rfl (by assumption) rfl ?_) | (refine is_move ?_; (first | refine al_v (opx_move (.raw _)) ⟨rfl, trivial⟩ trivial rfl ?_ | refine al_v (opx_move (.tup _)) ⟨rfl, trivial⟩ trivial rfl ?_)) | (refine is_assign ?_; refine al_v (opx_assign (.raw _)) ⟨rfl, trivial⟩ trivial rfl ?_) | (refine is_pick ?_; refine al_v (opx_pick_t (.raw _) rfl) ⟨rfl, rfl, trivial⟩ trivial rfl ?_) | (refine is_call ?_; (first | refine al_callF (by (repeat (first | exact .nil | refine .one rfl rfl ?_ | refine .froz rfl rfl ?_ | refine .rnil rfl ?_ | refine .agg rfl (by (repeat (first | exact .nil | refine .cons (.same rfl) ?_ | refine .cons (.froz rfl) ?_ | refine .cons (.rnil) ?_)); (first | done | fail)) ?_)); (first | done | fail)) rfl (hcut) rfl ?_ | refine al_callF (by (repeat (first | exact .nil | refine .one rfl rfl ?_ | refine .froz rfl rfl ?_ | refine .rnil rfl ?_ | refine .agg rfl (by (repeat (first | exact .nil | refine .cons (.same rfl) ?_ | refine .cons (.froz rfl) ?_ | refine .cons (.rnil) ?_)); (first | done | fail)) ?_)); (first | done | fail)) rfl (hcut2) rfl ?_)) | refine al_v opx_not ⟨rfl, trivial⟩ trivial rfl ?_ | refine al_v (opx_extract _ rfl) ⟨rfl, trivial⟩ trivial rfl ?_ | refine al_nil ?_)) | (refine is_aw ?_; (first | refine aw_seq ?_ | refine aw_region ?_ | refine aw_skip ?_ | refine aw_block ?_ | (refine is_cond ?_; refine aw_cond_t rfl rfl ?_))) | refine thn_n ?_)
      refine aw_le (le_ownNil 2 2 60 rfl) ?_
      repeat' (first | (refine is_aw ?_; refine aw_ret ?_) | refine thn_r ?_ | refine inb_r ?_)
      exact ret_row_raw trivial rfl rfl rfl ⟨by rw [f1], by rw [f2]; rfl⟩
  | false =>
    have hcv := c_ValidLabels l (fun y hy => by have := h3 y hy; exact ⟨by unfold BIG; omega, by unfold BIG; omega⟩) (by unfold BIG; omega)
    cases hv : vlB l
    · rw [hv] at hcv
      have hno : ∀ m, ¬ IsT (123 :: (x ++ [125])) m := by
        rcases h1 with ⟨_, h, _⟩ | ⟨h6, h7⟩
        · subst h
          exact absurd IsT_nil.1 (vlB_of_f hv)
        · exact no_valid ins_mk h6 (by rw [h7]; simp) h2 (vlB_of_f hv)
      obtain ⟨f1, f2⟩ := prs_f hno
      repeat' (first | (refine is_al ?_; (first | (refine is_move ?_; (first | refine al_v (opx_move (.raw _)) ⟨rfl, trivial⟩ trivial rfl ?_ | refine al_v (opx_move (.own _)) ⟨rfl, trivial⟩ trivial rfl ?_)) | (refine is_assign ?_; refine al_v (opx_assign (.raw _)) ⟨rfl, trivial⟩ trivial rfl ?_) | (refine is_call ?_; refine al_callv2 (by (repeat (first | exact .nil | refine .one rfl rfl ?_ | refine .froz rfl rfl ?_ | refine .row rfl rfl ?_ | refine .rnil rfl ?_ | refine .agg rfl (by (repeat (first | exact .nil | refine .cons (.same rfl) ?_ | refine .cons (.froz rfl) ?_ | refine .cons (.rnil) ?_ | refine .cons (.row rfl rfl) ?_)); (first | done | fail)) ?_)); (first | done | fail)) rfl (hcv) rfl ?_) | refine al_v opx_not ⟨rfl, trivial⟩ trivial rfl ?_ | refine al_nil ?_)) | (refine is_aw ?_; (first | refine aw_seq ?_ | refine aw_region ?_ | refine aw_exit ?_ | (refine is_cond ?_; (first | refine aw_cond_t rfl rfl ?_ | refine aw_cond_f rfl rfl ?_)))) | refine thn_n ?_)
      refine aw_le (le_ownNil 2 2 60 rfl) ?_
      repeat' (first | (refine is_aw ?_; refine aw_ret ?_) | refine thn_r ?_)
      exact ret_row_raw trivial rfl rfl rfl ⟨by rw [f1], by rw [f2]; rfl⟩
    · rw [hv] at hcv
      have hyes : IsT (123 :: (x ++ [125])) l := by
        rcases h1 with ⟨h6, h, _⟩ | ⟨h6, h7⟩
        · subst h h6
          exact IsT_nil
        · exact IsT_mk (by rw [ins_mk]) (by rw [ins_mk]; exact h6) (by rw [ins_mk, h7]; simp) (vlB_of hv)
      obtain ⟨f1, f2⟩ := prs_t hyes
      repeat' (first | (refine is_al ?_; (first | (refine is_move ?_; (first | refine al_v (opx_move (.raw _)) ⟨rfl, trivial⟩ trivial rfl ?_ | refine al_v (opx_move (.own _)) ⟨rfl, trivial⟩ trivial rfl ?_)) | (refine is_assign ?_; (first | refine al_v (opx_assign (.raw _)) ⟨rfl, trivial⟩ trivial rfl ?_ | refine al_v (opx_assign (.own _)) ⟨rfl, trivial⟩ trivial rfl ?_)) | (refine is_call ?_; refine al_callv2 (by (repeat (first | exact .nil | refine .one rfl rfl ?_ | refine .froz rfl rfl ?_ | refine .row rfl rfl ?_ | refine .rnil rfl ?_ | refine .agg rfl (by (repeat (first | exact .nil | refine .cons (.same rfl) ?_ | refine .cons (.froz rfl) ?_ | refine .cons (.rnil) ?_ | refine .cons (.row rfl rfl) ?_)); (first | done | fail)) ?_)); (first | done | fail)) rfl (hcv) rfl ?_) | refine al_v opx_not ⟨rfl, trivial⟩ trivial rfl ?_ | refine al_nil ?_)) | (refine is_aw ?_; (first | refine aw_seq ?_ | refine aw_region ?_ | refine aw_skip ?_ | refine aw_ret ?_ | refine aw_exit ?_ | (refine is_cond ?_; refine aw_cond_f rfl rfl ?_))))
      exact ret_row_raw trivial rfl rfl rfl ⟨by rw [f1], by rw [f2]⟩
theorem c_PL2 (r : Str) (hr : r.getLast? ≠ some 125) (hno : ∀ l, ¬ IsT (123 :: r) l) (hrl : r.length ≤ 8000000000000000000) : Con Try.prog 20 [rStr (123 :: r)] [] (fun rs all => rs = [.one (.own 0), rB (prsB (123 :: r))] ∧ all = [.row 2 60 (lbRs (prsL (123 :: r)))]) := by
  obtain ⟨f1, f2⟩ := prs_f hno
  have n1 : (!true) = false := rfl
  have n2 : (!false) = true := rfl
  refine con_of_aw (vars := [.tmp 2, .tmp 3]) [(0, .r (rStr (123 :: r)))] [] 0 Try.func20 (by kernel_rfl) rfl Try.ntmps20 rfl (by decide) rfl rfl rfl rfl rfl ?_
  intro B M w0 ρ0 Z0
  repeat' (first | (refine is_al ?_; (first | (refine is_gd ?_; refine al_on rfl rfl rfl (by assumption) ?_) | (refine is_move ?_; (first | refine al_v (opx_move (.raw _)) ⟨rfl, trivial⟩ trivial rfl ?_ | refine al_v (opx_move (.tup _)) ⟨rfl, trivial⟩ trivial rfl ?_)) | (refine is_assign ?_; refine al_v (opx_assign (.raw _)) ⟨rfl, trivial⟩ trivial rfl ?_) | (refine is_pick ?_; refine al_v (opx_pick_f (.raw _) rfl) ⟨rfl, rfl, trivial⟩ trivial rfl ?_) | (refine is_call ?_; (first | refine al_callF (by (repeat (first | exact .nil | refine .one rfl rfl ?_ | refine .froz rfl rfl ?_ | refine .rnil rfl ?_ | refine .agg rfl (by (repeat (first | exact .nil | refine .cons (.same rfl) ?_ | refine .cons (.froz rfl) ?_ | refine .cons (.rnil) ?_)); (first | done | fail)) ?_)); (first | done | fail)) rfl (c_CutPrefix_t 123 r) rfl ?_ | refine al_callF (by (repeat (first | exact .nil | refine .one rfl rfl ?_ | refine .froz rfl rfl ?_ | refine .rnil rfl ?_ | refine .agg rfl (by (repeat (first | exact .nil | refine .cons (.same rfl) ?_ | refine .cons (.froz rfl) ?_ | refine .cons (.rnil) ?_)); (first | done | fail)) ?_)); (first | done | fail)) rfl (c_CutSuffix_f 125 r hr (by omega)) rfl ?_)) | refine al_v opx_not ⟨rfl, trivial⟩ trivial rfl ?_ | refine al_v (opx_extract _ rfl) ⟨rfl, trivial⟩ trivial rfl ?_ | refine al_nil ?_)) | (refine is_aw ?_; (first | refine aw_seq ?_ | refine aw_region ?_ | (refine is_cond ?_; refine aw_cond_t rfl rfl ?_))) | refine thn_n ?_)
  refine aw_le (le_ownNil 2 2 60 rfl) ?_
  repeat' (first | (refine is_aw ?_; refine aw_ret ?_) | refine thn_r ?_)
  exact ret_row_raw trivial rfl rfl rfl ⟨by rw [f1], by rw [f2]; rfl⟩
theorem c_PL3 (s : Str) (hh : s.head? ≠ some 123) (hno : ∀ l, ¬ IsT s l) (hs : s.length ≤ 8000000000000000000) : Con Try.prog 20 [rStr s] [] (fun rs all => rs = [.one (.own 0), rB (prsB s)] ∧ all = [.row 2 60 (lbRs (prsL s))]) := by
  obtain ⟨f1, f2⟩ := prs_f hno
  have n1 : (!true) = false := rfl
  have n2 : (!false) = true := rfl
  refine con_of_aw (vars := [.tmp 2, .tmp 3]) [(0, .r (rStr s))] [] 0 Try.func20 (by kernel_rfl) rfl Try.ntmps20 rfl (by decide) rfl rfl rfl rfl rfl ?_
  intro B M w0 ρ0 Z0
  by_cases ht : s.getLast? = some 125
  · obtain ⟨y, rfl⟩ : ∃ y, s = y ++ [125] := by
      rcases List.eq_nil_or_concat s with rfl | ⟨y, a, rfl⟩
      · cases ht
      · rw [List.concat_eq_append] at ht ⊢
        rw [List.getLast?_append] at ht
        simp at ht
        exact ⟨y, by rw [ht]⟩
    have hyl : y.length ≤ 8000000000000000000 := by rw [List.length_append] at hs; omega
    repeat' (first | (refine is_al ?_; (first | (refine is_gd ?_; refine al_off rfl rfl rfl (by assumption) rfl ?_) | (refine is_move ?_; (first | refine al_v (opx_move (.raw _)) ⟨rfl, trivial⟩ trivial rfl ?_ | refine al_v (opx_move (.tup _)) ⟨rfl, trivial⟩ trivial rfl ?_)) | (refine is_assign ?_; refine al_v (opx_assign (.raw _)) ⟨rfl, trivial⟩ trivial rfl ?_) | (refine is_pick ?_; refine al_v (opx_pick_t (.raw _) rfl) ⟨rfl, rfl, trivial⟩ trivial rfl ?_) | (refine is_call ?_; (first | refine al_callF (by (repeat (first | exact .nil | refine .one rfl rfl ?_ | refine .froz rfl rfl ?_ | refine .rnil rfl ?_ | refine .agg rfl (by (repeat (first | exact .nil | refine .cons (.same rfl) ?_ | refine .cons (.froz rfl) ?_ | refine .cons (.rnil) ?_)); (first | done | fail)) ?_)); (first | done | fail)) rfl (c_CutPrefix_f 123 _ hh) rfl ?_ | refine al_callF (by (repeat (first | exact .nil | refine .one rfl rfl ?_ | refine .froz rfl rfl ?_ | refine .rnil rfl ?_ | refine .agg rfl (by (repeat (first | exact .nil | refine .cons (.same rfl) ?_ | refine .cons (.froz rfl) ?_ | refine .cons (.rnil) ?_)); (first | done | fail)) ?_)); (first | done | fail)) rfl (c_CutSuffix_t 125 y (by omega)) rfl ?_)) | refine al_v opx_not ⟨rfl, trivial⟩ trivial rfl ?_ | refine al_v (opx_extract _ rfl) ⟨rfl, trivial⟩ trivial rfl ?_ | refine al_nil ?_)) | (refine is_aw ?_; (first | refine aw_seq ?_ | refine aw_region ?_ | (refine is_cond ?_; refine aw_cond_t rfl rfl ?_))) | refine thn_n ?_)
    refine aw_le (le_ownNil 2 2 60 rfl) ?_
    repeat' (first | (refine is_aw ?_; refine aw_ret ?_) | refine thn_r ?_)
    exact ret_row_raw trivial rfl rfl rfl ⟨by rw [f1], by rw [f2]; rfl⟩
  · repeat' (first | (refine is_al ?_; (first | (refine is_gd ?_; refine al_off rfl rfl rfl (by assumption) rfl ?_) | (refine is_move ?_; (first | refine al_v (opx_move (.raw _)) ⟨rfl, trivial⟩ trivial rfl ?_ | refine al_v (opx_move (.tup _)) ⟨rfl, trivial⟩ trivial rfl ?_)) | (refine is_assign ?_; refine al_v (opx_assign (.raw _)) ⟨rfl, trivial⟩ trivial rfl ?_) | (refine is_pick ?_; refine al_v (opx_pick_t (.raw _) rfl) ⟨rfl, rfl, trivial⟩ trivial rfl ?_) | (refine is_call ?_; (first | refine al_callF (by (repeat (first | exact .nil | refine .one rfl rfl ?_ | refine .froz rfl rfl ?_ | refine .rnil rfl ?_ | refine .agg rfl (by (repeat (first | exact .nil | refine .cons (.same rfl) ?_ | refine .cons (.froz rfl) ?_ | refine .cons (.rnil) ?_)); (first | done | fail)) ?_)); (first | done | fail)) rfl (c_CutPrefix_f 123 _ hh) rfl ?_ | refine al_callF (by (repeat (first | exact .nil | refine .one rfl rfl ?_ | refine .froz rfl rfl ?_ | refine .rnil rfl ?_ | refine .agg rfl (by (repeat (first | exact .nil | refine .cons (.same rfl) ?_ | refine .cons (.froz rfl) ?_ | refine .cons (.rnil) ?_)); (first | done | fail)) ?_)); (first | done | fail)) rfl (c_CutSuffix_f 125 s ht (by omega)) rfl ?_)) | refine al_v opx_not ⟨rfl, trivial⟩ trivial rfl ?_ | refine al_v (opx_extract _ rfl) ⟨rfl, trivial⟩ trivial rfl ?_ | refine al_nil ?_)) | (refine is_aw ?_; (first | refine aw_seq ?_ | refine aw_region ?_ | (refine is_cond ?_; refine aw_cond_t rfl rfl ?_))) | refine thn_n ?_)
    refine aw_le (le_ownNil 2 2 60 rfl) ?_
    repeat' (first | (refine is_aw ?_; refine aw_ret ?_) | refine thn_r ?_)
    exact ret_row_raw trivial rfl rfl rfl ⟨by rw [f1], by rw [f2]; rfl⟩
theorem c_ParseLabels (s : Str) (hs : s.length ≤ 8000000000000000000) : Con Try.prog 20 [rStr s] [] (fun rs all => rs = [.one (.own 0), rB (prsB s)] ∧ all = [.row 2 60 (lbRs (prsL s))]) := by
  by_cases hsh : ∃ x, s = 123 :: (x ++ [125])
  · obtain ⟨x, rfl⟩ := hsh
    have hxl : (123 :: (x ++ [125]) : Str).length = x.length + 2 := by rw [List.length_cons, List.length_append]; rfl
    exact c_PL1 x (by omega)
  · have hno := prs_nil hsh
    by_cases hh : s.head? = some 123
    · obtain ⟨r, rfl⟩ : ∃ r, s = 123 :: r := by
        cases s with
        | nil => cases hh
        | cons a r => rw [List.head?_cons] at hh; cases hh; exact ⟨r, rfl⟩
      have hr : r.getLast? ≠ some 125 := fun h => hsh (by
        rcases List.eq_nil_or_concat r with rfl | ⟨y, a, rfl⟩
        · cases h
        · rw [List.concat_eq_append] at h ⊢
          rw [List.getLast?_append] at h
          simp at h
          exact ⟨y, by rw [h]⟩)
      exact c_PL2 r hr hno (by rw [List.length_cons] at hs; omega)
    · exact c_PL3 s hh hno hs
theorem c_ParseLabels' (s : Str) (hs : s.length ≤ 8000000000000000000) : Con Try.prog 20 [rStr s] [] (fun rs all => rs = [slL (prsL s), rB (prsB s)] ∧ all = []) :=
  (c_ParseLabels s hs).froz fun rs all ⟨h1, h2⟩ => by subst h1 h2; exact ⟨⟨rfl, rfl⟩, rfl⟩
end Go.Proofs.Ytoalaimmgmehaaa
