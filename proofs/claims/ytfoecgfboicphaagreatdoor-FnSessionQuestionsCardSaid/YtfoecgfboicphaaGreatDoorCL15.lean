/- Texts: W65 W66 W67 W68 W69 -/
import Derived.Test.YtfoecgfboicphaaGreatDoorCL14
/-
  Parsing labels: the program's walk.
-/
namespace Go.Proofs.YtfoecgfboicphaaGreatDoor
open Go.RowKit
set_option linter.unusedVariables false
set_option linter.unusedSimpArgs false
attribute [local irreducible] AL AW OpX Le AD

theorem ins_mk {x : Str} : ins (123 :: (x ++ [125])) = x := by
  unfold ins
  rw [List.length_cons, List.length_append, List.length_singleton, Nat.add_sub_cancel, List.take_succ_cons, List.drop_succ_cons, List.drop_zero, List.take_left']
  rfl
/-- A part without an equals sign, or a fifth part: no labels have the text. -/
theorem no_part {s x : Str} {l : List Lb} {part : Str} {ps : List Str} (hs : ins s = x) (hi : x ≠ []) (h : spl 44 x = l.map eqt ++ part :: ps) (hb : (61 : UInt8) ∉ part ∨ l.length = 4) : ∀ m, ¬ IsT s m := by
  intro m hm
  obtain ⟨h1, h2⟩ := IsT_parts hm (by rw [hs]; exact hi)
  rw [hs, h] at h1
  rcases hb with hb | hb
  · have : part ∈ m.map eqt := by rw [← h1]; simp
    obtain ⟨x, _, rfl⟩ := List.mem_map.1 this
    exact hb (by simp [eqt])
  · have := congrArg List.length h1
    simp only [List.length_append, List.length_map, List.length_cons] at this
    have := h2.1
    omega
theorem no_valid {s x : Str} {l : List Lb} (hs : ins s = x) (hi : x ≠ []) (h : spl 44 x = l.map eqt) (hn : ∀ y ∈ l, (61 : UInt8) ∉ y.1) (hv : ¬ VL l) : ∀ m, ¬ IsT s m := by
  intro m hm
  obtain ⟨h1, h2⟩ := IsT_parts hm (by rw [hs]; exact hi)
  rw [hs, h] at h1
  rw [eqts_inj hn (VL_eq h2) h1] at hv
  exact hv h2
theorem cut_comma (rest : Str) (h : BIG rest.length) : ∃ (part rest' : Str) (more : Bool), Con Tryz.prog 25 [rStr rest, rStr [44]] [] (fun rs all => rs = [rStr part, rStr rest', rB more] ∧ all = []) ∧
    spl 44 rest = part :: (if more = true then spl 44 rest' else []) ∧ part.length ≤ rest.length ∧ rest'.length ≤ rest.length ∧ (more = true → rest'.length < rest.length) := by
  by_cases hc : (44 : UInt8) ∈ rest
  · obtain ⟨x, r, rfl, hx⟩ := cut_at hc
    have hl : (x ++ 44 :: r).length = x.length + (r.length + 1) := by rw [List.length_append, List.length_cons]
    exact ⟨x, r, true, c_Cut_t x r 44 hx (by unfold BIG at h; omega), by rw [spl_cut hx]; rfl, by omega, by omega, fun _ => by omega⟩
  · exact ⟨rest, [], false, c_Cut_f rest 44 hc, by rw [spl_none hc]; rfl, Nat.le_refl _, Nat.zero_le _, fun h => by cases h⟩
/-- How far the reading is. -/
def RdP (x : Str) (l : List Lb) (rest : Str) (more : Bool) : Prop :=
  ((x = [] ∧ l = [] ∧ more = false) ∨ (x ≠ [] ∧ spl 44 x = l.map eqt ++ (if more = true then spl 44 rest else []))) ∧ (∀ y ∈ l, (61 : UInt8) ∉ y.1) ∧ (∀ y ∈ l, y.1.length ≤ x.length ∧ y.2.length ≤ x.length) ∧ l.length ≤ 4 ∧ rest.length ≤ x.length
theorem prs_nil {s : Str} (h : ¬ ∃ x, s = 123 :: (x ++ [125])) : ∀ l, ¬ IsT s l := fun l hl => h ⟨_, IsT_shape hl⟩
set_option maxHeartbeats 4000000 in
theorem c_PL1 (x : Str) (hX : x.length ≤ 8000000000000000000) : Con Tryz.prog 47 [rStr (123 :: (x ++ [125]))] [] (fun rs all => rs = [.one (.own 0), rB (prsB (123 :: (x ++ [125])))] ∧ all = [.row 2 104 (lbRs (prsL (123 :: (x ++ [125]))))]) := by
  have n1 : (!true) = false := rfl
  have n2 : (!false) = true := rfl
  refine con_of_aw (vars := [.tmp 2, .tmp 3]) [(0, .r (rStr (123 :: (x ++ [125]))))] [] 0 Tryz.func47 (by kernel_rfl) rfl Tryz.ntmps47 rfl (by decide) rfl rfl rfl rfl rfl ?_; intro B M w0 ρ0 Z0
  repeat' (first | (refine is_al ?_; (first | (refine is_gd ?_; refine al_on rfl rfl rfl (by assumption) ?_) | (refine is_move ?_; (first | refine al_v (opx_move (.raw _)) ⟨rfl, trivial⟩ trivial rfl ?_ | refine al_v (opx_move (.tup _)) ⟨rfl, trivial⟩ trivial rfl ?_)) | (refine is_bin ?_; refine al_v opx_sneq ⟨rfl, rfl, trivial⟩ trivial rfl ?_) | (refine is_assign ?_; refine al_v (opx_assign (.raw _)) ⟨rfl, trivial⟩ trivial rfl ?_) | (refine is_pick ?_; refine al_v (opx_pick_f (.raw _) rfl) ⟨rfl, rfl, trivial⟩ trivial rfl ?_) | (refine is_call ?_; (first | refine al_callF (by (repeat (first | exact .nil | refine .one rfl rfl ?_ | refine .froz rfl rfl ?_ | refine .rnil rfl ?_ | refine .agg rfl (by (repeat (first | exact .nil | refine .cons (.same rfl) ?_ | refine .cons (.froz rfl) ?_ | refine .cons (.rnil) ?_)); (first | done | fail)) ?_)); (first | done | fail)) rfl (c_CutPrefix_t 123 (x ++ [125])) rfl ?_ | refine al_callF (by (repeat (first | exact .nil | refine .one rfl rfl ?_ | refine .froz rfl rfl ?_ | refine .rnil rfl ?_ | refine .agg rfl (by (repeat (first | exact .nil | refine .cons (.same rfl) ?_ | refine .cons (.froz rfl) ?_ | refine .cons (.rnil) ?_)); (first | done | fail)) ?_)); (first | done | fail)) rfl (c_CutSuffix_t 125 x (by omega)) rfl ?_)) | refine al_v opx_not ⟨rfl, trivial⟩ trivial rfl ?_ | refine al_v (opx_extract _ rfl) ⟨rfl, trivial⟩ trivial rfl ?_ | refine al_nil ?_)) | (refine is_aw ?_; (first | refine aw_seq ?_ | refine aw_region ?_ | refine aw_skip ?_ | refine aw_block ?_ | (refine is_cond ?_; refine aw_cond_f rfl rfl ?_))))
  refine aw_le (le_ownNil 7 2 104 rfl) ?_
  refine aw_loop (γ := List Lb × Str × Bool) (fun g => [(7, .own 0), (8, .str g.2.1), (9, .b g.2.2)]) (fun g => [(0, .row 2 104 (lbRs g.1))]) (fun _ => 1)
    (fun g => RdP x g.1 g.2.1 g.2.2) (fun g => if g.2.2 = true then g.2.1.length + 1 else 0) ([], x, !decide (x = [])) ⟨by
      by_cases h : x = []
      · exact .inl ⟨h, rfl, by rw [decide_eq_true h]; rfl⟩
      · exact .inr ⟨h, by rw [decide_eq_false h]; rfl⟩, fun y hy => (by cases hy), fun y hy => (by cases hy), Nat.zero_le _, Nat.le_refl _⟩ (le_mk [0] rfl rfl rfl rfl ⟨rfl, rfl, rfl, trivial⟩ ⟨rfl, trivial⟩) ?_
  rintro ⟨l, rest, more⟩ ⟨h1, h2, h3, h4, h5⟩
  dsimp only at h1 h2 h3 h4 h5 ⊢
  have hlr := lbRs_len (xs := l)
  cases more with
  | true =>
    obtain ⟨hx0, hsp⟩ : x ≠ [] ∧ spl 44 x = l.map eqt ++ spl 44 rest := by
      rcases h1 with ⟨_, _, h⟩ | h
      · cases h
      · exact h
    obtain ⟨part, rest', more', hcut, hsp2, p1, p2, p3⟩ := cut_comma rest (by unfold BIG; omega)
    rw [hsp2] at hsp
    by_cases he : (61 : UInt8) ∈ part
    · obtain ⟨nm, v, rfl, hn⟩ := cut_at he
      have hpl : (nm ++ 61 :: v).length = nm.length + (v.length + 1) := by rw [List.length_append, List.length_cons]
      have hcut2 := c_Cut_t nm v 61 hn (by omega)
      by_cases h44 : l.length = 4
      · have d1 : decide (((lbRs l).length : Int) = 4) = true := decide_eq_true (by omega)
        obtain ⟨f1, f2⟩ := prs_f (no_part ins_mk hx0 hsp (.inr h44))
        repeat' (first | (refine is_al ?_; (first | (refine is_gd ?_; refine al_on rfl rfl rfl (by assumption) ?_) | (refine is_move ?_; (first | refine al_v (opx_move (.raw _)) ⟨rfl, trivial⟩ trivial rfl ?_ | refine al_v (opx_move (.own _)) ⟨rfl, trivial⟩ trivial rfl ?_ | refine al_v (opx_move (.tup _)) ⟨rfl, trivial⟩ trivial rfl ?_)) | (refine is_bin ?_; refine al_v opx_eql ⟨rfl, rfl, trivial⟩ trivial rfl ?_) | (refine is_assign ?_; refine al_v (opx_assign (.raw _)) ⟨rfl, trivial⟩ trivial rfl ?_) | (refine is_pick ?_; refine al_v (opx_pick_f (.raw _) rfl) ⟨rfl, rfl, trivial⟩ trivial rfl ?_) | (refine is_bi ?_; refine al_v opx_len_own ⟨rfl, trivial⟩ ⟨rfl, trivial⟩ rfl ?_) | (refine is_call ?_; (first | refine al_callF (by (repeat (first | exact .nil | refine .one rfl rfl ?_ | refine .froz rfl rfl ?_ | refine .rnil rfl ?_ | refine .agg rfl (by (repeat (first | exact .nil | refine .cons (.same rfl) ?_ | refine .cons (.froz rfl) ?_ | refine .cons (.rnil) ?_)); (first | done | fail)) ?_)); (first | done | fail)) rfl (hcut) rfl ?_ | refine al_callF (by (repeat (first | exact .nil | refine .one rfl rfl ?_ | refine .froz rfl rfl ?_ | refine .rnil rfl ?_ | refine .agg rfl (by (repeat (first | exact .nil | refine .cons (.same rfl) ?_ | refine .cons (.froz rfl) ?_ | refine .cons (.rnil) ?_)); (first | done | fail)) ?_)); (first | done | fail)) rfl (hcut2) rfl ?_)) | refine al_v opx_not ⟨rfl, trivial⟩ trivial rfl ?_ | refine al_v (opx_extract _ rfl) ⟨rfl, trivial⟩ trivial rfl ?_ | refine al_nil ?_)) | (refine is_aw ?_; (first | refine aw_seq ?_ | refine aw_region ?_ | refine aw_skip ?_ | refine aw_block ?_ | (refine is_cond ?_; (first | refine aw_cond_t rfl rfl ?_ | refine aw_cond_t rfl (by assumption) ?_)))) | refine thn_n ?_)
        refine aw_le (le_ownNil 2 2 104 rfl) ?_
        repeat' (first | (refine is_aw ?_; refine aw_ret ?_) | refine thn_r ?_ | refine inb_r ?_)
        exact ret_row_raw trivial rfl rfl rfl ⟨by rw [f1], by rw [f2]; rfl⟩
      · have d1 : decide (((lbRs l).length : Int) = 4) = false := decide_eq_false (by omega)
        repeat' (first | (refine is_al ?_; (first | (refine is_gd ?_; refine al_on rfl rfl rfl (by assumption) ?_) | (refine is_move ?_; (first | refine al_v (opx_move (.raw _)) ⟨rfl, trivial⟩ trivial rfl ?_ | refine al_v (opx_move (.own _)) ⟨rfl, trivial⟩ trivial rfl ?_ | refine al_v (opx_move (.tup _)) ⟨rfl, trivial⟩ trivial rfl ?_)) | (refine is_bin ?_; refine al_v opx_eql ⟨rfl, rfl, trivial⟩ trivial rfl ?_) | (refine is_assign ?_; (first | refine al_v (opx_assign (.raw _)) ⟨rfl, trivial⟩ trivial rfl ?_ | refine al_v (opx_assign (.own _)) ⟨rfl, trivial⟩ trivial rfl ?_)) | (refine is_pick ?_; refine al_v (opx_pick_f (.raw _) rfl) ⟨rfl, rfl, trivial⟩ trivial rfl ?_) | (refine is_bi ?_; refine al_v opx_len_own ⟨rfl, trivial⟩ ⟨rfl, trivial⟩ rfl ?_) | (refine is_call ?_; (first | refine al_callF (by (repeat (first | exact .nil | refine .one rfl rfl ?_ | refine .froz rfl rfl ?_ | refine .rnil rfl ?_ | refine .agg rfl (by (repeat (first | exact .nil | refine .cons (.same rfl) ?_ | refine .cons (.froz rfl) ?_ | refine .cons (.rnil) ?_)); (first | done | fail)) ?_)); (first | done | fail)) rfl (hcut) rfl ?_ | refine al_callF (by (repeat (first | exact .nil | refine .one rfl rfl ?_ | refine .froz rfl rfl ?_ | refine .rnil rfl ?_ | refine .agg rfl (by (repeat (first | exact .nil | refine .cons (.same rfl) ?_ | refine .cons (.froz rfl) ?_ | refine .cons (.rnil) ?_)); (first | done | fail)) ?_)); (first | done | fail)) rfl (hcut2) rfl ?_)) | refine al_v opx_not ⟨rfl, trivial⟩ trivial rfl ?_ | refine al_v (opx_extract _ rfl) ⟨rfl, trivial⟩ trivial rfl ?_ | refine al_v (opx_build2 (res := [_, _]) rfl) ⟨rfl, rfl, trivial⟩ trivial rfl ?_ | (refine is_bs ?_; refine al_pushL ⟨rfl, trivial⟩ rfl rfl rfl rfl rfl (by omega) ?_) | refine al_nil ?_)) | (refine is_aw ?_; (first | refine aw_seq ?_ | refine aw_region ?_ | refine aw_skip ?_ | refine aw_block ?_ | (refine is_cond ?_; (first | refine aw_cond_t rfl rfl ?_ | refine aw_cond_f rfl (by assumption) ?_)))) | refine thn_n ?_ | refine inb_n ?_)
        refine ⟨(l ++ [(nm, v)], rest', more'), ⟨.inr ⟨hx0, by rw [hsp, List.map_append, List.append_assoc]; rfl⟩, all_snoc h2 hn, all_snoc h3 ⟨by dsimp only; omega, by dsimp only; omega⟩, by rw [List.length_append, List.length_singleton]; omega, by dsimp only; omega⟩, ?_, le_mk [_] rfl rfl rfl rfl ⟨rfl, rfl, rfl, trivial⟩ ⟨rfl, trivial⟩⟩
        dsimp only
        cases more' with
        | true => have := p3 rfl; simp only [if_true]; omega
        | false => simp
    · have hcut2 := c_Cut_f part 61 he
      obtain ⟨f1, f2⟩ := prs_f (no_part ins_mk hx0 hsp (.inl he))
      repeat' (first | (refine is_al ?_; (first | (refine is_gd ?_; refine al_off rfl rfl rfl (by assumption) rfl ?_) | (refine is_move ?_; (first | refine al_v (opx_move (.raw _)) ⟨rfl, trivial⟩ trivial rfl ?_ | refine al_v (opx_move (.tup _)) ⟨rfl, trivial⟩ trivial rfl ?_)) | (refine is_assign ?_; refine al_v (opx_assign (.raw _)) ⟨rfl, trivial⟩ trivial rfl ?_) | (refine is_pick ?_; refine al_v (opx_pick_t (.raw _) rfl) ⟨rfl, rfl, trivial⟩ trivial rfl ?_) | (refine is_call ?_; (first | refine al_callF (by (repeat (first | exact .nil | refine .one rfl rfl ?_ | refine .froz rfl rfl ?_ | refine .rnil rfl ?_ | refine .agg rfl (by (repeat (first | exact .nil | refine .cons (.same rfl) ?_ | refine .cons (.froz rfl) ?_ | refine .cons (.rnil) ?_)); (first | done | fail)) ?_)); (first | done | fail)) rfl (hcut) rfl ?_ | refine al_callF (by (repeat (first | exact .nil | refine .one rfl rfl ?_ | refine .froz rfl rfl ?_ | refine .rnil rfl ?_ | refine .agg rfl (by (repeat (first | exact .nil | refine .cons (.same rfl) ?_ | refine .cons (.froz rfl) ?_ | refine .cons (.rnil) ?_)); (first | done | fail)) ?_)); (first | done | fail)) rfl (hcut2) rfl ?_)) | refine al_v opx_not ⟨rfl, trivial⟩ trivial rfl ?_ | refine al_v (opx_extract _ rfl) ⟨rfl, trivial⟩ trivial rfl ?_ | refine al_nil ?_)) | (refine is_aw ?_; (first | refine aw_seq ?_ | refine aw_region ?_ | refine aw_skip ?_ | refine aw_block ?_ | (refine is_cond ?_; refine aw_cond_t rfl rfl ?_))) | refine thn_n ?_)
      refine aw_le (le_ownNil 2 2 104 rfl) ?_
      repeat' (first | (refine is_aw ?_; refine aw_ret ?_) | refine thn_r ?_ | refine inb_r ?_)
      exact ret_row_raw trivial rfl rfl rfl ⟨by rw [f1], by rw [f2]; rfl⟩
  | false =>
    have hcv := c_ValidLabels l (fun y hy => by have := h3 y hy; exact ⟨by unfold BIG; omega, by unfold BIG; omega⟩) (by unfold BIG; omega)
    cases hv : vlB l
    · rw [hv] at hcv
      have hno : ∀ m, ¬ IsT (123 :: (x ++ [125])) m := by
        rcases h1 with ⟨_, h, _⟩ | ⟨h6, h7⟩
        · subst h
          exact absurd IsT_nil.1 (vlB_of_f hv)
        · exact no_valid ins_mk h6 (by rw [h7]; simp) h2 (vlB_of_f hv)
      obtain ⟨f1, f2⟩ := prs_f hno
      repeat' (first | (refine is_al ?_; (first | (refine is_move ?_; (first | refine al_v (opx_move (.raw _)) ⟨rfl, trivial⟩ trivial rfl ?_ | refine al_v (opx_move (.own _)) ⟨rfl, trivial⟩ trivial rfl ?_)) | (refine is_assign ?_; refine al_v (opx_assign (.raw _)) ⟨rfl, trivial⟩ trivial rfl ?_) | (refine is_call ?_; refine al_callv2 (by (repeat (first | exact .nil | refine .one rfl rfl ?_ | refine .froz rfl rfl ?_ | refine .row rfl rfl ?_ | refine .rnil rfl ?_ | refine .agg rfl (by (repeat (first | exact .nil | refine .cons (.same rfl) ?_ | refine .cons (.froz rfl) ?_ | refine .cons (.rnil) ?_ | refine .cons (.row rfl rfl) ?_)); (first | done | fail)) ?_)); (first | done | fail)) rfl (hcv) rfl ?_) | refine al_v opx_not ⟨rfl, trivial⟩ trivial rfl ?_ | refine al_nil ?_)) | (refine is_aw ?_; (first | refine aw_seq ?_ | refine aw_region ?_ | refine aw_exit ?_ | (refine is_cond ?_; (first | refine aw_cond_t rfl rfl ?_ | refine aw_cond_f rfl rfl ?_)))) | refine thn_n ?_)
      refine aw_le (le_ownNil 2 2 104 rfl) ?_
      repeat' (first | (refine is_aw ?_; refine aw_ret ?_) | refine thn_r ?_)
      exact ret_row_raw trivial rfl rfl rfl ⟨by rw [f1], by rw [f2]; rfl⟩
    · rw [hv] at hcv
      have hyes : IsT (123 :: (x ++ [125])) l := by
        rcases h1 with ⟨h6, h, _⟩ | ⟨h6, h7⟩
        · subst h h6
          exact IsT_nil
        · exact IsT_mk (by rw [ins_mk]) (by rw [ins_mk]; exact h6) (by rw [ins_mk, h7]; simp) (vlB_of hv)
      obtain ⟨f1, f2⟩ := prs_t hyes
      repeat' (first | (refine is_al ?_; (first | (refine is_move ?_; (first | refine al_v (opx_move (.raw _)) ⟨rfl, trivial⟩ trivial rfl ?_ | refine al_v (opx_move (.own _)) ⟨rfl, trivial⟩ trivial rfl ?_)) | (refine is_assign ?_; (first | refine al_v (opx_assign (.raw _)) ⟨rfl, trivial⟩ trivial rfl ?_ | refine al_v (opx_assign (.own _)) ⟨rfl, trivial⟩ trivial rfl ?_)) | (refine is_call ?_; refine al_callv2 (by (repeat (first | exact .nil | refine .one rfl rfl ?_ | refine .froz rfl rfl ?_ | refine .row rfl rfl ?_ | refine .rnil rfl ?_ | refine .agg rfl (by (repeat (first | exact .nil | refine .cons (.same rfl) ?_ | refine .cons (.froz rfl) ?_ | refine .cons (.rnil) ?_ | refine .cons (.row rfl rfl) ?_)); (first | done | fail)) ?_)); (first | done | fail)) rfl (hcv) rfl ?_) | refine al_v opx_not ⟨rfl, trivial⟩ trivial rfl ?_ | refine al_nil ?_)) | (refine is_aw ?_; (first | refine aw_seq ?_ | refine aw_region ?_ | refine aw_skip ?_ | refine aw_ret ?_ | refine aw_exit ?_ | (refine is_cond ?_; refine aw_cond_f rfl rfl ?_))))
      exact ret_row_raw trivial rfl rfl rfl ⟨by rw [f1], by rw [f2]⟩
theorem c_PL2 (r : Str) (hr : r.getLast? ≠ some 125) (hno : ∀ l, ¬ IsT (123 :: r) l) (hrl : r.length ≤ 8000000000000000000) : Con Tryz.prog 47 [rStr (123 :: r)] [] (fun rs all => rs = [.one (.own 0), rB (prsB (123 :: r))] ∧ all = [.row 2 104 (lbRs (prsL (123 :: r)))]) := by
  obtain ⟨f1, f2⟩ := prs_f hno
  have n1 : (!true) = false := rfl
  have n2 : (!false) = true := rfl
  refine con_of_aw (vars := [.tmp 2, .tmp 3]) [(0, .r (rStr (123 :: r)))] [] 0 Tryz.func47 (by kernel_rfl) rfl Tryz.ntmps47 rfl (by decide) rfl rfl rfl rfl rfl ?_; intro B M w0 ρ0 Z0
  repeat' (first | (refine is_al ?_; (first | (refine is_gd ?_; refine al_on rfl rfl rfl (by assumption) ?_) | (refine is_move ?_; (first | refine al_v (opx_move (.raw _)) ⟨rfl, trivial⟩ trivial rfl ?_ | refine al_v (opx_move (.tup _)) ⟨rfl, trivial⟩ trivial rfl ?_)) | (refine is_assign ?_; refine al_v (opx_assign (.raw _)) ⟨rfl, trivial⟩ trivial rfl ?_) | (refine is_pick ?_; refine al_v (opx_pick_f (.raw _) rfl) ⟨rfl, rfl, trivial⟩ trivial rfl ?_) | (refine is_call ?_; (first | refine al_callF (by (repeat (first | exact .nil | refine .one rfl rfl ?_ | refine .froz rfl rfl ?_ | refine .rnil rfl ?_ | refine .agg rfl (by (repeat (first | exact .nil | refine .cons (.same rfl) ?_ | refine .cons (.froz rfl) ?_ | refine .cons (.rnil) ?_)); (first | done | fail)) ?_)); (first | done | fail)) rfl (c_CutPrefix_t 123 r) rfl ?_ | refine al_callF (by (repeat (first | exact .nil | refine .one rfl rfl ?_ | refine .froz rfl rfl ?_ | refine .rnil rfl ?_ | refine .agg rfl (by (repeat (first | exact .nil | refine .cons (.same rfl) ?_ | refine .cons (.froz rfl) ?_ | refine .cons (.rnil) ?_)); (first | done | fail)) ?_)); (first | done | fail)) rfl (c_CutSuffix_f 125 r hr (by omega)) rfl ?_)) | refine al_v opx_not ⟨rfl, trivial⟩ trivial rfl ?_ | refine al_v (opx_extract _ rfl) ⟨rfl, trivial⟩ trivial rfl ?_ | refine al_nil ?_)) | (refine is_aw ?_; (first | refine aw_seq ?_ | refine aw_region ?_ | (refine is_cond ?_; refine aw_cond_t rfl rfl ?_))) | refine thn_n ?_)
  refine aw_le (le_ownNil 2 2 104 rfl) ?_
  repeat' (first | (refine is_aw ?_; refine aw_ret ?_) | refine thn_r ?_)
  exact ret_row_raw trivial rfl rfl rfl ⟨by rw [f1], by rw [f2]; rfl⟩
theorem c_PL3 (s : Str) (hh : s.head? ≠ some 123) (hno : ∀ l, ¬ IsT s l) (hs : s.length ≤ 8000000000000000000) : Con Tryz.prog 47 [rStr s] [] (fun rs all => rs = [.one (.own 0), rB (prsB s)] ∧ all = [.row 2 104 (lbRs (prsL s))]) := by
  obtain ⟨f1, f2⟩ := prs_f hno
  have n1 : (!true) = false := rfl
  have n2 : (!false) = true := rfl
  refine con_of_aw (vars := [.tmp 2, .tmp 3]) [(0, .r (rStr s))] [] 0 Tryz.func47 (by kernel_rfl) rfl Tryz.ntmps47 rfl (by decide) rfl rfl rfl rfl rfl ?_; intro B M w0 ρ0 Z0
  by_cases ht : s.getLast? = some 125
  · obtain ⟨y, rfl⟩ : ∃ y, s = y ++ [125] := by
      rcases List.eq_nil_or_concat s with rfl | ⟨y, a, rfl⟩
      · cases ht
      · rw [List.concat_eq_append] at ht ⊢
        rw [List.getLast?_append] at ht
        simp at ht
        exact ⟨y, by rw [ht]⟩
    have hyl : y.length ≤ 8000000000000000000 := by rw [List.length_append] at hs; omega
    repeat' (first | (refine is_al ?_; (first | (refine is_gd ?_; refine al_off rfl rfl rfl (by assumption) rfl ?_) | (refine is_move ?_; (first | refine al_v (opx_move (.raw _)) ⟨rfl, trivial⟩ trivial rfl ?_ | refine al_v (opx_move (.tup _)) ⟨rfl, trivial⟩ trivial rfl ?_)) | (refine is_assign ?_; refine al_v (opx_assign (.raw _)) ⟨rfl, trivial⟩ trivial rfl ?_) | (refine is_pick ?_; refine al_v (opx_pick_t (.raw _) rfl) ⟨rfl, rfl, trivial⟩ trivial rfl ?_) | (refine is_call ?_; (first | refine al_callF (by (repeat (first | exact .nil | refine .one rfl rfl ?_ | refine .froz rfl rfl ?_ | refine .rnil rfl ?_ | refine .agg rfl (by (repeat (first | exact .nil | refine .cons (.same rfl) ?_ | refine .cons (.froz rfl) ?_ | refine .cons (.rnil) ?_)); (first | done | fail)) ?_)); (first | done | fail)) rfl (c_CutPrefix_f 123 _ hh) rfl ?_ | refine al_callF (by (repeat (first | exact .nil | refine .one rfl rfl ?_ | refine .froz rfl rfl ?_ | refine .rnil rfl ?_ | refine .agg rfl (by (repeat (first | exact .nil | refine .cons (.same rfl) ?_ | refine .cons (.froz rfl) ?_ | refine .cons (.rnil) ?_)); (first | done | fail)) ?_)); (first | done | fail)) rfl (c_CutSuffix_t 125 y (by omega)) rfl ?_)) | refine al_v opx_not ⟨rfl, trivial⟩ trivial rfl ?_ | refine al_v (opx_extract _ rfl) ⟨rfl, trivial⟩ trivial rfl ?_ | refine al_nil ?_)) | (refine is_aw ?_; (first | refine aw_seq ?_ | refine aw_region ?_ | (refine is_cond ?_; refine aw_cond_t rfl rfl ?_))) | refine thn_n ?_)
    refine aw_le (le_ownNil 2 2 104 rfl) ?_
    repeat' (first | (refine is_aw ?_; refine aw_ret ?_) | refine thn_r ?_)
    exact ret_row_raw trivial rfl rfl rfl ⟨by rw [f1], by rw [f2]; rfl⟩
  · repeat' (first | (refine is_al ?_; (first | (refine is_gd ?_; refine al_off rfl rfl rfl (by assumption) rfl ?_) | (refine is_move ?_; (first | refine al_v (opx_move (.raw _)) ⟨rfl, trivial⟩ trivial rfl ?_ | refine al_v (opx_move (.tup _)) ⟨rfl, trivial⟩ trivial rfl ?_)) | (refine is_assign ?_; refine al_v (opx_assign (.raw _)) ⟨rfl, trivial⟩ trivial rfl ?_) | (refine is_pick ?_; refine al_v (opx_pick_t (.raw _) rfl) ⟨rfl, rfl, trivial⟩ trivial rfl ?_) | (refine is_call ?_; (first | refine al_callF (by (repeat (first | exact .nil | refine .one rfl rfl ?_ | refine .froz rfl rfl ?_ | refine .rnil rfl ?_ | refine .agg rfl (by (repeat (first | exact .nil | refine .cons (.same rfl) ?_ | refine .cons (.froz rfl) ?_ | refine .cons (.rnil) ?_)); (first | done | fail)) ?_)); (first | done | fail)) rfl (c_CutPrefix_f 123 _ hh) rfl ?_ | refine al_callF (by (repeat (first | exact .nil | refine .one rfl rfl ?_ | refine .froz rfl rfl ?_ | refine .rnil rfl ?_ | refine .agg rfl (by (repeat (first | exact .nil | refine .cons (.same rfl) ?_ | refine .cons (.froz rfl) ?_ | refine .cons (.rnil) ?_)); (first | done | fail)) ?_)); (first | done | fail)) rfl (c_CutSuffix_f 125 s ht (by omega)) rfl ?_)) | refine al_v opx_not ⟨rfl, trivial⟩ trivial rfl ?_ | refine al_v (opx_extract _ rfl) ⟨rfl, trivial⟩ trivial rfl ?_ | refine al_nil ?_)) | (refine is_aw ?_; (first | refine aw_seq ?_ | refine aw_region ?_ | (refine is_cond ?_; refine aw_cond_t rfl rfl ?_))) | refine thn_n ?_)
    refine aw_le (le_ownNil 2 2 104 rfl) ?_
    repeat' (first | (refine is_aw ?_; refine aw_ret ?_) | refine thn_r ?_)
    exact ret_row_raw trivial rfl rfl rfl ⟨by rw [f1], by rw [f2]; rfl⟩
theorem c_ParseLabels (s : Str) (hs : s.length ≤ 8000000000000000000) : Con Tryz.prog 47 [rStr s] [] (fun rs all => rs = [.one (.own 0), rB (prsB s)] ∧ all = [.row 2 104 (lbRs (prsL s))]) := by
  by_cases hsh : ∃ x, s = 123 :: (x ++ [125])
  · obtain ⟨x, rfl⟩ := hsh
    have hxl : (123 :: (x ++ [125]) : Str).length = x.length + 2 := by rw [List.length_cons, List.length_append]; rfl
    exact c_PL1 x (by omega)
  · have hno := prs_nil hsh
    by_cases hh : s.head? = some 123
    · obtain ⟨r, rfl⟩ : ∃ r, s = 123 :: r := by
        cases s with
        | nil => cases hh
        | cons a r => rw [List.head?_cons] at hh; cases hh; exact ⟨r, rfl⟩
      have hr : r.getLast? ≠ some 125 := fun h => hsh (by
        rcases List.eq_nil_or_concat r with rfl | ⟨y, a, rfl⟩
        · cases h
        · rw [List.concat_eq_append] at h ⊢
          rw [List.getLast?_append] at h
          simp at h
          exact ⟨y, by rw [h]⟩)
      exact c_PL2 r hr hno (by rw [List.length_cons] at hs; omega)
    · exact c_PL3 s hh hno hs
theorem c_ParseLabels' (s : Str) (hs : s.length ≤ 8000000000000000000) : Con Tryz.prog 47 [rStr s] [] (fun rs all => rs = [slL (prsL s), rB (prsB s)] ∧ all = []) :=
  (c_ParseLabels s hs).froz fun rs all ⟨h1, h2⟩ => by subst h1 h2; exact ⟨⟨rfl, rfl⟩, rfl⟩
end Go.Proofs.YtfoecgfboicphaaGreatDoor
/-
  Labels: the law that nothing is lost.
-/
namespace Go.Proofs.YtfoecgfboicphaaGreatDoor
open Go.RowKit
set_option linter.unusedVariables false
set_option linter.unusedSimpArgs false
attribute [local irreducible] AL AW OpX Le AD

end Go.Proofs.YtfoecgfboicphaaGreatDoor
/-
  Labels: the reference's parsing: the walks.
-/
namespace Go.Proofs.YtfoecgfboicphaaGreatDoor
open Go.RowKit
set_option linter.unusedVariables false
set_option linter.unusedSimpArgs false
attribute [local irreducible] AL AW OpX Le AD

theorem c_splitAt (s : Str) (c : UInt8) (hs : s.length ≤ 1000000000) : Con Tryz.prog 42 [rStr s, .one (.c (.raw (.int .u8 c.toNat)))] [] (fun rs all => rs = [.one (.own 0)] ∧ all = [.row 1 9 (stRs (spl c s))]) := by
  refine con_of_aw (vars := [.tmp 4]) [(0, .r (rStr s)), (1, .r (.one (.c (.raw (.int .u8 c.toNat)))))] [] 0 Tryz.func42 (by kernel_rfl) rfl Tryz.ntmps42 rfl (by decide) rfl rfl rfl rfl rfl ?_; intro B M w0 ρ0 Z0
  repeat' (first | (refine is_al ?_; (first | (refine is_assign ?_; (first | refine al_v (opx_assign (.raw _)) ⟨rfl, trivial⟩ trivial rfl ?_ | refine al_v (opx_assign (.own _)) ⟨rfl, trivial⟩ trivial rfl ?_)) | (refine is_bs ?_; refine al_n opx_lit0 trivial trivial rfl ?_) | refine al_nil ?_)) | (refine is_aw ?_; (first | refine aw_seq ?_ | refine aw_region ?_ | refine aw_block ?_)))
  refine aw_loop (γ := List Str × Nat × Nat) (fun g => [(0, .r (rStr s)), (1, .r (.one (.c (.raw (.int .u8 c.toNat))))), (5, .own 0), (6, .i (g.2.1 : Int)), (7, .i (g.2.2 : Int))]) (fun g => [(0, .row 1 9 (stRs g.1))]) (fun _ => 1)
    (fun g => g.2.1 ≤ g.2.2 ∧ g.2.2 ≤ s.length ∧ spl c s = g.1 ++ spl c (s.drop g.2.1) ∧ c ∉ (s.take g.2.2).drop g.2.1 ∧ g.1.length ≤ g.2.1) (fun g => s.length - g.2.2) ([], 0, 0) ⟨Nat.le_refl _, Nat.zero_le _, rfl, by simp, Nat.le_refl _⟩ (le_mk [0] rfl rfl rfl rfl ⟨rfl, rfl, rfl, rfl, rfl, trivial⟩ ⟨rfl, trivial⟩) ?_
  rintro ⟨out, f, i⟩ ⟨h1, h2, h3, h4, h5⟩
  dsimp only at h1 h2 h3 h4 h5 ⊢
  rcases Nat.lt_or_ge i s.length with hlt | hge
  · have hc1 : decide ((i : Int) < (s.length : Int)) = true := decide_eq_true (by omega)
    obtain ⟨b, hb⟩ : ∃ b, s[i]? = some b := ⟨_, List.getElem?_eq_getElem hlt⟩
    by_cases e : b = c
    · subst e
      have d1 : decide ((b.toNat : Int) = (b.toNat : Int)) = true := eqD _
      have hdr : s.drop f = (s.take i).drop f ++ b :: s.drop (i + 1) := by
        obtain ⟨_, rfl⟩ := List.getElem?_eq_some_iff.1 hb
        have e1 : s[i] :: s.drop (i + 1) = s.drop i := (List.drop_eq_getElem_cons hlt).symm
        have e2 : s = s.take i ++ s.drop i := (List.take_append_drop i s).symm
        rw [e1]
        conv => lhs; rw [e2]
        rw [List.drop_append_of_le_length (by rw [List.length_take]; omega)]
      have hsp : spl b s = (out ++ [(s.take i).drop f]) ++ spl b (s.drop (i + 1)) := by rw [h3, hdr, spl_cut h4, List.append_assoc]; rfl
      repeat' (first | (refine is_al ?_; (first | (refine is_move ?_; (first | refine al_v (opx_move (.raw _)) ⟨rfl, trivial⟩ trivial rfl ?_ | refine al_v (opx_move (.own _)) ⟨rfl, trivial⟩ trivial rfl ?_)) | (refine is_bin ?_; (first | refine al_v opx_eql ⟨rfl, rfl, trivial⟩ trivial rfl ?_ | refine al_v opx_lss ⟨rfl, rfl, trivial⟩ trivial rfl ?_ | refine al_v (opx_add (by unfold InR; omega)) ⟨rfl, rfl, trivial⟩ trivial rfl ?_)) | (refine is_assign ?_; (first | refine al_v (opx_assign (.raw _)) ⟨rfl, trivial⟩ trivial rfl ?_ | refine al_v (opx_assign (.own _)) ⟨rfl, trivial⟩ trivial rfl ?_)) | (refine is_bi ?_; refine al_v opx_len_str ⟨rfl, trivial⟩ trivial rfl ?_) | (refine is_bs ?_; refine al_pushS ⟨rfl, trivial⟩ rfl rfl rfl rfl rfl (by omega) ?_) | refine al_nil ?_ | refine al_v (opx_sidx (k := i) rfl hb) ⟨rfl, rfl, trivial⟩ trivial rfl ?_ | refine al_v (opx_cutLH_str (l := f) (h := i) (s' := (s.take i).drop f) rfl rfl rfl (by omega)) ⟨rfl, rfl, rfl, trivial⟩ trivial rfl ?_)) | (refine is_ad ?_; (first | refine al_v (opx_sidx (k := i) rfl hb) ⟨rfl, rfl, trivial⟩ trivial rfl ?_ | refine al_v (opx_cutLH_str (l := f) (h := i) (s' := (s.take i).drop f) rfl rfl rfl (by omega)) ⟨rfl, rfl, rfl, trivial⟩ trivial rfl ?_)) | (refine is_aw ?_; (first | refine aw_seq ?_ | refine aw_region ?_ | refine aw_skip ?_ | refine aw_block ?_ | (refine is_cond ?_; refine aw_cond_t rfl (by assumption) ?_))) | refine thn_n ?_)
      exact ⟨(out ++ [(s.take i).drop f], i + 1, i + 1), ⟨Nat.le_refl _, hlt, hsp, by simp, by rw [List.length_append, List.length_singleton]; dsimp only; omega⟩, by dsimp only; omega, le_mk [_] rfl rfl rfl rfl ⟨rfl, rfl, rfl, rfl, rfl, trivial⟩ ⟨rfl, trivial⟩⟩
    · have d1 : decide ((b.toNat : Int) = (c.toNat : Int)) = false := decide_eq_false fun h => e (UInt8.toNat_inj.1 (by omega))
      have h6 : c ∉ (s.take (i + 1)).drop f := by
        rw [List.take_add_one, hb, List.drop_append_of_le_length (by rw [List.length_take]; omega)]
        intro hm
        rcases List.mem_append.1 hm with hm | hm
        · exact h4 hm
        · simp at hm; exact e hm.symm
      repeat' (first | (refine is_al ?_; (first | (refine is_move ?_; refine al_v (opx_move (.raw _)) ⟨rfl, trivial⟩ trivial rfl ?_) | (refine is_bin ?_; (first | refine al_v opx_eql ⟨rfl, rfl, trivial⟩ trivial rfl ?_ | refine al_v opx_lss ⟨rfl, rfl, trivial⟩ trivial rfl ?_ | refine al_v (opx_add (by unfold InR; omega)) ⟨rfl, rfl, trivial⟩ trivial rfl ?_)) | (refine is_assign ?_; refine al_v (opx_assign (.raw _)) ⟨rfl, trivial⟩ trivial rfl ?_) | (refine is_bi ?_; refine al_v opx_len_str ⟨rfl, trivial⟩ trivial rfl ?_) | refine al_nil ?_ | refine al_v (opx_sidx (k := i) rfl hb) ⟨rfl, rfl, trivial⟩ trivial rfl ?_)) | (refine is_ad ?_; refine al_v (opx_sidx (k := i) rfl hb) ⟨rfl, rfl, trivial⟩ trivial rfl ?_) | (refine is_aw ?_; (first | refine aw_seq ?_ | refine aw_region ?_ | refine aw_skip ?_ | refine aw_block ?_ | (refine is_cond ?_; (first | refine aw_cond_t rfl (by assumption) ?_ | refine aw_cond_f rfl (by assumption) ?_)))) | refine thn_n ?_)
      exact ⟨(out, f, i + 1), ⟨by dsimp only; omega, hlt, h3, h6, h5⟩, by dsimp only; omega, le_mk [0] rfl rfl rfl rfl ⟨rfl, rfl, rfl, rfl, rfl, trivial⟩ ⟨rfl, trivial⟩⟩
  · have hc1 : decide ((i : Int) < (s.length : Int)) = false := decide_eq_false (by omega)
    rw [List.take_of_length_le hge] at h4
    have hsp : spl c s = out ++ [s.drop f] := by rw [h3, spl_none h4]
    repeat' (first | (refine is_al ?_; (first | (refine is_move ?_; (first | refine al_v (opx_move (.raw _)) ⟨rfl, trivial⟩ trivial rfl ?_ | refine al_v (opx_move (.own _)) ⟨rfl, trivial⟩ trivial rfl ?_)) | (refine is_bin ?_; refine al_v opx_lss ⟨rfl, rfl, trivial⟩ trivial rfl ?_) | (refine is_assign ?_; refine al_v (opx_assign (.own _)) ⟨rfl, trivial⟩ trivial rfl ?_) | (refine is_bi ?_; refine al_v opx_len_str ⟨rfl, trivial⟩ trivial rfl ?_) | (refine is_bs ?_; refine al_pushS ⟨rfl, trivial⟩ rfl rfl rfl rfl rfl (by omega) ?_) | refine al_nil ?_ | refine al_v (opx_cutL_str (l := f) (s' := s.drop f) (by rw [List.take_length]) rfl (by omega)) ⟨rfl, rfl, trivial⟩ trivial rfl ?_)) | (refine is_ad ?_; refine al_v (opx_cutL_str (l := f) (s' := s.drop f) (by rw [List.take_length]) rfl (by omega)) ⟨rfl, rfl, trivial⟩ trivial rfl ?_) | (refine is_aw ?_; (first | refine aw_seq ?_ | refine aw_region ?_ | refine aw_ret ?_ | refine aw_exit ?_ | (refine is_cond ?_; refine aw_cond_f rfl (by assumption) ?_))))
    exact ret_row trivial rfl rfl ⟨rfl, by rw [hsp]⟩
theorem c_splitAt' (s : Str) (c : UInt8) (hs : s.length ≤ 1000000000) : Con Tryz.prog 42 [rStr s, .one (.c (.raw (.int .u8 c.toNat)))] [] (fun rs all => rs = [slS (spl c s)] ∧ all = []) :=
  (c_splitAt s c hs).froz fun rs all ⟨h1, h2⟩ => by subst h1 h2; exact ⟨⟨rfl, rfl⟩, rfl⟩
end Go.Proofs.YtfoecgfboicphaaGreatDoor
/-
  Labels: the reference's parsing, whole.
-/
namespace Go.Proofs.YtfoecgfboicphaaGreatDoor
open Go.RowKit
set_option linter.unusedVariables false
set_option linter.unusedSimpArgs false
attribute [local irreducible] AL AW OpX Le AD

theorem spl_mem {c : UInt8} : ∀ (n : Nat) {s : Str}, s.length ≤ n → ∀ p ∈ spl c s, c ∉ p
  | n, s, hn, p, hp => by
    by_cases h : c ∈ s
    · obtain ⟨x, r, rfl, hx⟩ := cut_at h
      rw [spl_cut hx] at hp
      rcases List.mem_cons.1 hp with rfl | hp
      · exact hx
      · cases n with
        | zero => simp at hn
        | succ n => exact spl_mem n (by simp at hn; omega) p hp
    · rw [spl_none h] at hp
      rcases List.mem_cons.1 hp with rfl | hp
      · exact h
      · cases hp
theorem spl2 {s a b : Str} (h : spl 61 s = [a, b]) : s = eqt (a, b) ∧ (61 : UInt8) ∉ a ∧ (61 : UInt8) ∉ b := by
  have h1 := jn_spl (c := 61) s.length (s := s) (Nat.le_refl _)
  have h2 := spl_mem (c := 61) s.length (s := s) (Nat.le_refl _)
  rw [h] at h1 h2
  exact ⟨h1.symm, h2 a (by simp), h2 b (by simp)⟩
theorem no_two {s x : Str} {l : List Lb} {part : Str} {ps : List Str} (hs : ins s = x) (hi : x ≠ []) (h : spl 44 x = l.map eqt ++ part :: ps) (hb : (spl 61 part).length ≠ 2) : ∀ m, ¬ IsT s m := by
  intro m hm
  obtain ⟨h1, h2⟩ := IsT_parts hm (by rw [hs]; exact hi)
  rw [hs, h] at h1
  have : part ∈ m.map eqt := by rw [← h1]; simp
  obtain ⟨y, hy, rfl⟩ := List.mem_map.1 this
  obtain ⟨a1, a2⟩ := VL_mem h2 hy
  have e : spl 61 (eqt y) = [y.1, y.2] := by
    rw [eqt, spl_cut (vw_not a1 (by decide)), spl_none (vw_not a2 (by decide))]
  rw [e] at hb
  exact hb rfl
theorem spl_len {c : UInt8} : ∀ (n : Nat) {s : Str}, s.length ≤ n → (spl c s).length ≤ s.length + 1
  | n, s, hn => by
    by_cases h : c ∈ s
    · obtain ⟨x, r, rfl, hx⟩ := cut_at h
      rw [spl_cut hx]
      have hl : (x ++ c :: r).length = x.length + (r.length + 1) := by rw [List.length_append, List.length_cons]
      cases n with
      | zero => omega
      | succ n => have := spl_len (c := c) n (s := r) (by omega); rw [List.length_cons]; omega
    · rw [spl_none h]; simp
theorem spl_le {c : UInt8} : ∀ (n : Nat) {s : Str}, s.length ≤ n → ∀ p ∈ spl c s, p.length ≤ s.length
  | n, s, hn, p, hp => by
    by_cases h : c ∈ s
    · obtain ⟨x, r, rfl, hx⟩ := cut_at h
      have hl : (x ++ c :: r).length = x.length + (r.length + 1) := by rw [List.length_append, List.length_cons]
      rw [spl_cut hx] at hp
      rcases List.mem_cons.1 hp with rfl | hp
      · omega
      · cases n with
        | zero => omega
        | succ n => have := spl_le (c := c) n (s := r) (by omega) p hp; omega
    · rw [spl_none h] at hp
      rcases List.mem_cons.1 hp with rfl | hp
      · exact Nat.le_refl _
      · cases hp
abbrev PLp (s : Str) (rs : List AR) (all : List OB) : Prop := rs = [.one (.own 0), rB (prsB s)] ∧ all = [.row 2 104 (lbRs (prsL s))]
theorem c_sPL1 (x : Str) (hx0 : x ≠ []) (hX : x.length ≤ 100000000) : Con Tryz.prog 91 [rStr (123 :: (x ++ [125]))] [] (PLp (123 :: (x ++ [125]))) := by
  have n1 : (!true) = false := rfl
  have n2 : (!false) = true := rfl
  have hxl : (123 :: (x ++ [125]) : Str).length = x.length + 2 := by rw [List.length_cons, List.length_append]; rfl
  have d1 : decide (((123 :: (x ++ [125]) : Str).length : Int) < 2) = false := decide_eq_false (by omega)
  have hf : (123 :: (x ++ [125]) : Str)[0]? = some 123 := rfl
  have hla : (123 :: (x ++ [125]) : Str)[x.length + 1]? = some 125 := by simp
  have hin : ((123 :: (x ++ [125]) : Str).take (x.length + 1)).drop 1 = x := by rw [List.take_succ_cons, List.drop_succ_cons, List.drop_zero, List.take_left']; rfl
  have q2 : decide ((123 :: (x ++ [125]) : Str) = [123, 125]) = false := decide_eq_false fun h => hx0 (by
    have := congrArg ins h
    rw [ins_mk] at this
    exact this)
  refine con_of_aw (vars := [.tmp 2, .tmp 3]) [(0, .r (rStr (123 :: (x ++ [125]))))] [] 0 Tryz.func91 (by kernel_rfl) rfl Tryz.ntmps91 rfl (by decide) rfl rfl rfl rfl rfl ?_; intro B M w0 ρ0 Z0
  have hlp := stRs_len (xs := spl 44 x)
  repeat' (first | (refine is_al ?_; (first | (refine is_gd ?_; refine al_on rfl rfl rfl (by assumption) ?_) | (refine is_move ?_; refine al_v (opx_move (.raw _)) ⟨rfl, trivial⟩ trivial rfl ?_) | (refine is_bin ?_; (first | refine al_v opx_neq ⟨rfl, rfl, trivial⟩ trivial rfl ?_ | refine al_v opx_lss ⟨rfl, rfl, trivial⟩ trivial rfl ?_ | refine al_v (opx_sub (by unfold InR; omega)) ⟨rfl, rfl, trivial⟩ trivial rfl ?_ | refine al_v opx_seql ⟨rfl, rfl, trivial⟩ trivial rfl ?_)) | (refine is_assign ?_; (first | refine al_v (opx_assign (.raw _)) ⟨rfl, trivial⟩ trivial rfl ?_ | refine al_v (opx_assign (.sl _ _)) ⟨rfl, trivial⟩ trivial rfl ?_ | refine al_v (opx_assign (.own _)) ⟨rfl, trivial⟩ trivial rfl ?_)) | (refine is_pick ?_; (first | refine al_v (opx_pick_f (.raw _) rfl) ⟨rfl, rfl, trivial⟩ trivial rfl ?_ | refine al_v (opx_pick_f (.raw _) (by assumption)) ⟨rfl, rfl, trivial⟩ trivial rfl ?_)) | (refine is_bi ?_; refine al_v opx_len_str ⟨rfl, trivial⟩ trivial rfl ?_) | (refine is_call ?_; refine al_callF (by (repeat (first | exact .nil | refine .one rfl rfl ?_ | refine .froz rfl rfl ?_ | refine .rnil rfl ?_ | refine .agg rfl (by (repeat (first | exact .nil | refine .cons (.same rfl) ?_ | refine .cons (.froz rfl) ?_ | refine .cons (.rnil) ?_)); (first | done | fail)) ?_)); (first | done | fail)) rfl (c_splitAt' x 44 (by omega)) rfl ?_) | (refine is_bs ?_; refine al_n opx_lit0 trivial trivial rfl ?_) | refine al_nil ?_ | refine al_v (opx_sidx (k := 0) rfl hf) ⟨rfl, rfl, trivial⟩ trivial rfl ?_ | refine al_v (opx_sidx (k := x.length + 1) (by omega) hla) ⟨rfl, rfl, trivial⟩ trivial rfl ?_ | refine al_v (opx_cutLH_str (l := 1) (h := x.length + 1) hin rfl (by omega) (by omega)) ⟨rfl, rfl, rfl, trivial⟩ trivial rfl ?_)) | (refine is_ad ?_; (first | refine al_v (opx_sidx (k := 0) rfl hf) ⟨rfl, rfl, trivial⟩ trivial rfl ?_ | refine al_v (opx_sidx (k := x.length + 1) (by omega) hla) ⟨rfl, rfl, trivial⟩ trivial rfl ?_ | refine al_v (opx_cutLH_str (l := 1) (h := x.length + 1) hin rfl (by omega) (by omega)) ⟨rfl, rfl, rfl, trivial⟩ trivial rfl ?_)) | (refine is_aw ?_; (first | refine aw_seq ?_ | refine aw_region ?_ | refine aw_skip ?_ | refine aw_block ?_ | (refine is_cond ?_; (first | refine aw_cond_f rfl rfl ?_ | refine aw_cond_f rfl (by assumption) ?_)))))
  refine aw_loop (γ := List Lb × Nat) (fun g => [(4, .own 0), (5, .sl 1 (stRs (spl 44 x))), (6, .i (g.2 : Int))]) (fun g => [(0, .row 2 104 (lbRs g.1))]) (fun _ => 1)
    (fun g => g.2 ≤ (spl 44 x).length ∧ (spl 44 x).take g.2 = g.1.map eqt ∧ (∀ y ∈ g.1, (61 : UInt8) ∉ y.1) ∧ (∀ y ∈ g.1, y.1.length ≤ x.length ∧ y.2.length ≤ x.length) ∧ g.1.length = g.2) (fun g => (spl 44 x).length - g.2) ([], 0) ⟨Nat.zero_le _, rfl, fun y hy => (by cases hy), fun y hy => (by cases hy), rfl⟩ (le_mk [0] rfl rfl rfl rfl ⟨rfl, rfl, rfl, trivial⟩ ⟨rfl, trivial⟩) ?_
  rintro ⟨l, k⟩ ⟨h1, h2, h3, h4, h5⟩
  dsimp only at h1 h2 h3 h4 h5 ⊢
  have hlr := lbRs_len (xs := l)
  have hpl : (spl 44 x).length ≤ x.length + 1 := spl_len x.length (Nat.le_refl _)
  rcases Nat.lt_or_ge k (spl 44 x).length with hlt | hge
  · have hc1 : decide ((k : Int) < ((stRs (spl 44 x)).length : Int)) = true := decide_eq_true (by omega)
    obtain ⟨part, hp⟩ : ∃ part, (spl 44 x)[k]? = some part := ⟨_, List.getElem?_eq_getElem hlt⟩
    have hpr := stRs_at hp
    have hsp : spl 44 x = l.map eqt ++ part :: (spl 44 x).drop (k + 1) := by
      obtain ⟨_, rfl⟩ := List.getElem?_eq_some_iff.1 hp
      rw [← h2, ← List.drop_eq_getElem_cons hlt, List.take_append_drop]
    have hpx := spl_le x.length (s := x) (Nat.le_refl _) part (List.mem_of_getElem? hp)
    have hl2 := stRs_len (xs := spl 61 part)
    by_cases hb : (spl 61 part).length = 2
    · obtain ⟨a, b, hab⟩ : ∃ a b, spl 61 part = [a, b] := by
        match h : spl 61 part, hb with
        | [a, b], _ => exact ⟨a, b, rfl⟩
      obtain ⟨e1, e2, e3⟩ := spl2 hab
      have e4 := eqt_len (x := (a, b))
      rw [← e1] at e4
      dsimp only at e4
      have d2 : (!decide (((stRs [a, b]).length : Int) = 2)) = false := rfl
      have hs := c_splitAt' part 61 (by omega)
      rw [hab] at hs
      have i0 : (stRs [a, b])[0]? = some (stR a) := rfl
      have i1 : (stRs [a, b])[1]? = some (stR b) := rfl
      have ht : (spl 44 x).take (k + 1) = (l ++ [(a, b)]).map eqt := by rw [List.take_add_one, hp, h2, List.map_append]; rw [e1]; rfl
      repeat' (first | (refine is_al ?_; (first | (refine is_move ?_; (first | refine al_v (opx_move (.raw _)) ⟨rfl, trivial⟩ trivial rfl ?_ | refine al_v (opx_move (.sl _ _)) ⟨rfl, trivial⟩ trivial rfl ?_)) | (refine is_bin ?_; (first | refine al_v opx_neq ⟨rfl, rfl, trivial⟩ trivial rfl ?_ | refine al_v opx_lss ⟨rfl, rfl, trivial⟩ trivial rfl ?_ | refine al_v (opx_add (by unfold InR; omega)) ⟨rfl, rfl, trivial⟩ trivial rfl ?_)) | (refine is_load ?_; refine al_v opx_ld_imm ⟨rfl, trivial⟩ trivial rfl ?_) | (refine is_assign ?_; (first | refine al_v (opx_assign (.raw _)) ⟨rfl, trivial⟩ trivial rfl ?_ | refine al_v (opx_assign (.sl _ _)) ⟨rfl, trivial⟩ trivial rfl ?_)) | (refine is_bi ?_; refine al_v opx_len_sl ⟨rfl, trivial⟩ trivial rfl ?_) | (refine is_ia ?_; refine al_v (opx_ia_sl2 hpr (by omega)) ⟨rfl, rfl, trivial⟩ trivial rfl ?_) | (refine is_call ?_; refine al_callF (by (repeat (first | exact .nil | refine .one rfl rfl ?_ | refine .froz rfl rfl ?_ | refine .rnil rfl ?_ | refine .agg rfl (by (repeat (first | exact .nil | refine .cons (.same rfl) ?_ | refine .cons (.froz rfl) ?_ | refine .cons (.rnil) ?_)); (first | done | fail)) ?_)); (first | done | fail)) rfl (hs) rfl ?_) | refine al_nil ?_)) | (refine is_ad ?_; (first | (refine isd_move ?_; (first | refine ad_v (opx_move (.sl _ _)) ⟨rfl, trivial⟩ trivial rfl ?_ | refine ad_v (opx_move (.own _)) ⟨rfl, trivial⟩ trivial rfl ?_)) | (refine isd_load ?_; refine ad_v opx_ld_imm ⟨rfl, trivial⟩ trivial rfl ?_) | (refine isd_assign ?_; refine ad_v (opx_assign (.own _)) ⟨rfl, trivial⟩ trivial rfl ?_) | (refine isd_ia ?_; (first | refine ad_v (opx_ia_sl2 i0 (by omega)) ⟨rfl, rfl, trivial⟩ trivial rfl ?_ | refine ad_v (opx_ia_sl2 i1 (by omega)) ⟨rfl, rfl, trivial⟩ trivial rfl ?_)) | refine ad_v (opx_build2 (res := [_, _]) rfl) ⟨rfl, rfl, trivial⟩ trivial rfl ?_ | (refine isd_bs ?_; refine ad_pushL ⟨rfl, trivial⟩ rfl rfl rfl rfl rfl (by omega) ?_) | refine ad_nil (by kernel_rfl) ?_)) | (refine is_aw ?_; (first | refine aw_seq ?_ | refine aw_region ?_ | refine aw_skip ?_ | refine aw_block ?_ | (refine is_cond ?_; (first | refine aw_cond_f rfl rfl ?_ | refine aw_cond_t rfl (by assumption) ?_)) | refine aw_draw mixed ?_)) | refine thn_n ?_)
      exact ⟨(l ++ [(a, b)], k + 1), ⟨hlt, ht, all_snoc h3 e2, all_snoc h4 ⟨by dsimp only; omega, by dsimp only; omega⟩, by rw [List.length_append, List.length_singleton]; dsimp only; omega⟩, by dsimp only; omega, le_mk [_] rfl rfl rfl rfl ⟨rfl, rfl, rfl, trivial⟩ ⟨rfl, trivial⟩⟩
    · have d2 : (!decide (((stRs (spl 61 part)).length : Int) = 2)) = true := by rw [decide_eq_false (by omega)]; rfl
      obtain ⟨f1, f2⟩ := prs_f (no_two ins_mk hx0 hsp hb)
      repeat' (first | (refine is_al ?_; (first | (refine is_move ?_; (first | refine al_v (opx_move (.raw _)) ⟨rfl, trivial⟩ trivial rfl ?_ | refine al_v (opx_move (.sl _ _)) ⟨rfl, trivial⟩ trivial rfl ?_)) | (refine is_bin ?_; (first | refine al_v opx_neq ⟨rfl, rfl, trivial⟩ trivial rfl ?_ | refine al_v opx_lss ⟨rfl, rfl, trivial⟩ trivial rfl ?_)) | (refine is_load ?_; refine al_v opx_ld_imm ⟨rfl, trivial⟩ trivial rfl ?_) | (refine is_assign ?_; (first | refine al_v (opx_assign (.raw _)) ⟨rfl, trivial⟩ trivial rfl ?_ | refine al_v (opx_assign (.sl _ _)) ⟨rfl, trivial⟩ trivial rfl ?_)) | (refine is_bi ?_; refine al_v opx_len_sl ⟨rfl, trivial⟩ trivial rfl ?_) | (refine is_ia ?_; refine al_v (opx_ia_sl2 hpr (by omega)) ⟨rfl, rfl, trivial⟩ trivial rfl ?_) | (refine is_call ?_; refine al_callF (by (repeat (first | exact .nil | refine .one rfl rfl ?_ | refine .froz rfl rfl ?_ | refine .rnil rfl ?_ | refine .agg rfl (by (repeat (first | exact .nil | refine .cons (.same rfl) ?_ | refine .cons (.froz rfl) ?_ | refine .cons (.rnil) ?_)); (first | done | fail)) ?_)); (first | done | fail)) rfl (c_splitAt' part 61 (by omega)) rfl ?_) | refine al_nil ?_)) | (refine is_aw ?_; (first | refine aw_seq ?_ | refine aw_region ?_ | refine aw_skip ?_ | refine aw_block ?_ | (refine is_cond ?_; refine aw_cond_t rfl (by assumption) ?_))) | refine thn_n ?_)
      refine aw_le (le_ownNil 2 2 104 rfl) ?_
      repeat' (first | (refine is_aw ?_; refine aw_ret ?_) | refine thn_r ?_ | refine inb_r ?_)
      exact ret_row_raw trivial rfl rfl rfl ⟨by rw [f1], by rw [f2]; rfl⟩
  · have hc1 : decide ((k : Int) < ((stRs (spl 44 x)).length : Int)) = false := decide_eq_false (by omega)
    rw [List.take_of_length_le hge] at h2
    have hcv := c_sValidLabels l (fun y hy => by have := h4 y hy; exact ⟨by unfold BIG; omega, by unfold BIG; omega⟩) (by unfold BIG; omega)
    cases hv : vlB l
    · rw [hv] at hcv
      obtain ⟨f1, f2⟩ := prs_f (no_valid ins_mk hx0 h2 h3 (vlB_of_f hv))
      repeat' (first | (refine is_al ?_; (first | (refine is_move ?_; (first | refine al_v (opx_move (.raw _)) ⟨rfl, trivial⟩ trivial rfl ?_ | refine al_v (opx_move (.sl _ _)) ⟨rfl, trivial⟩ trivial rfl ?_ | refine al_v (opx_move (.own _)) ⟨rfl, trivial⟩ trivial rfl ?_)) | (refine is_bin ?_; refine al_v opx_lss ⟨rfl, rfl, trivial⟩ trivial rfl ?_) | (refine is_assign ?_; refine al_v (opx_assign (.raw _)) ⟨rfl, trivial⟩ trivial rfl ?_) | (refine is_bi ?_; refine al_v opx_len_sl ⟨rfl, trivial⟩ trivial rfl ?_) | (refine is_call ?_; refine al_callv2 (by (repeat (first | exact .nil | refine .one rfl rfl ?_ | refine .froz rfl rfl ?_ | refine .row rfl rfl ?_ | refine .rnil rfl ?_ | refine .agg rfl (by (repeat (first | exact .nil | refine .cons (.same rfl) ?_ | refine .cons (.froz rfl) ?_ | refine .cons (.rnil) ?_ | refine .cons (.row rfl rfl) ?_)); (first | done | fail)) ?_)); (first | done | fail)) rfl (hcv) rfl ?_) | refine al_v opx_not ⟨rfl, trivial⟩ trivial rfl ?_ | refine al_nil ?_)) | (refine is_aw ?_; (first | refine aw_seq ?_ | refine aw_region ?_ | refine aw_exit ?_ | (refine is_cond ?_; (first | refine aw_cond_t rfl rfl ?_ | refine aw_cond_f rfl (by assumption) ?_)))) | refine thn_n ?_)
      refine aw_le (le_ownNil 2 2 104 rfl) ?_
      repeat' (first | (refine is_aw ?_; refine aw_ret ?_) | refine thn_r ?_)
      exact ret_row_raw trivial rfl rfl rfl ⟨by rw [f1], by rw [f2]; rfl⟩
    · rw [hv] at hcv
      obtain ⟨f1, f2⟩ := prs_t (IsT_mk (s := 123 :: (x ++ [125])) (by rw [ins_mk]) (by rw [ins_mk]; exact hx0) (by rw [ins_mk, h2]) (vlB_of hv))
      repeat' (first | (refine is_al ?_; (first | (refine is_move ?_; (first | refine al_v (opx_move (.raw _)) ⟨rfl, trivial⟩ trivial rfl ?_ | refine al_v (opx_move (.sl _ _)) ⟨rfl, trivial⟩ trivial rfl ?_ | refine al_v (opx_move (.own _)) ⟨rfl, trivial⟩ trivial rfl ?_)) | (refine is_bin ?_; refine al_v opx_lss ⟨rfl, rfl, trivial⟩ trivial rfl ?_) | (refine is_assign ?_; (first | refine al_v (opx_assign (.raw _)) ⟨rfl, trivial⟩ trivial rfl ?_ | refine al_v (opx_assign (.own _)) ⟨rfl, trivial⟩ trivial rfl ?_)) | (refine is_bi ?_; refine al_v opx_len_sl ⟨rfl, trivial⟩ trivial rfl ?_) | (refine is_call ?_; refine al_callv2 (by (repeat (first | exact .nil | refine .one rfl rfl ?_ | refine .froz rfl rfl ?_ | refine .row rfl rfl ?_ | refine .rnil rfl ?_ | refine .agg rfl (by (repeat (first | exact .nil | refine .cons (.same rfl) ?_ | refine .cons (.froz rfl) ?_ | refine .cons (.rnil) ?_ | refine .cons (.row rfl rfl) ?_)); (first | done | fail)) ?_)); (first | done | fail)) rfl (hcv) rfl ?_) | refine al_v opx_not ⟨rfl, trivial⟩ trivial rfl ?_ | refine al_nil ?_)) | (refine is_aw ?_; (first | refine aw_seq ?_ | refine aw_region ?_ | refine aw_skip ?_ | refine aw_ret ?_ | refine aw_exit ?_ | (refine is_cond ?_; (first | refine aw_cond_f rfl rfl ?_ | refine aw_cond_f rfl (by assumption) ?_)))))
      exact ret_row_raw trivial rfl rfl rfl ⟨by rw [f1], by rw [f2]⟩
end Go.Proofs.YtfoecgfboicphaaGreatDoor
/-
  Labels: the reference's parsing, all texts.
-/
namespace Go.Proofs.YtfoecgfboicphaaGreatDoor
open Go.RowKit
set_option linter.unusedVariables false
set_option linter.unusedSimpArgs false
attribute [local irreducible] AL AW OpX Le AD

theorem c_sPL0 : Con Tryz.prog 91 [rStr [123, 125]] [] (PLp [123, 125]) := by
  obtain ⟨f1, f2⟩ := prs_t IsT_nil
  have hf : ([123, 125] : Str)[0]? = some 123 := rfl
  have hla : ([123, 125] : Str)[1]? = some 125 := rfl
  have q2 : decide (([123, 125] : Str) = [123, 125]) = true := eqD _
  have l2 : ([123, 125] : Str).length = 2 := rfl
  have d1 : decide ((([123, 125] : Str).length : Int) < 2) = false := rfl
  refine con_of_aw (vars := [.tmp 2, .tmp 3]) [(0, .r (rStr [123, 125]))] [] 0 Tryz.func91 (by kernel_rfl) rfl Tryz.ntmps91 rfl (by decide) rfl rfl rfl rfl rfl ?_; intro B M w0 ρ0 Z0
  repeat' (first | (refine is_al ?_; (first | (refine is_gd ?_; refine al_on rfl rfl rfl (by assumption) ?_) | (refine is_move ?_; (first | refine al_v (opx_move (.raw _)) ⟨rfl, trivial⟩ trivial rfl ?_ | refine al_v (opx_move (.own _)) ⟨rfl, trivial⟩ trivial rfl ?_)) | (refine is_bin ?_; (first | refine al_v opx_neq ⟨rfl, rfl, trivial⟩ trivial rfl ?_ | refine al_v opx_lss ⟨rfl, rfl, trivial⟩ trivial rfl ?_ | refine al_v (opx_sub (by unfold InR; omega)) ⟨rfl, rfl, trivial⟩ trivial rfl ?_ | refine al_v opx_seql ⟨rfl, rfl, trivial⟩ trivial rfl ?_)) | (refine is_assign ?_; (first | refine al_v (opx_assign (.raw _)) ⟨rfl, trivial⟩ trivial rfl ?_ | refine al_v (opx_assign (.own _)) ⟨rfl, trivial⟩ trivial rfl ?_)) | (refine is_pick ?_; refine al_v (opx_pick_f (.raw _) rfl) ⟨rfl, rfl, trivial⟩ trivial rfl ?_) | (refine is_bi ?_; refine al_v opx_len_str ⟨rfl, trivial⟩ trivial rfl ?_) | (refine is_bs ?_; refine al_n opx_lit0 trivial trivial rfl ?_) | refine al_nil ?_ | refine al_v (opx_sidx (k := 0) rfl hf) ⟨rfl, rfl, trivial⟩ trivial rfl ?_ | refine al_v (opx_sidx (k := 1) rfl hla) ⟨rfl, rfl, trivial⟩ trivial rfl ?_)) | (refine is_ad ?_; (first | refine al_v (opx_sidx (k := 0) rfl hf) ⟨rfl, rfl, trivial⟩ trivial rfl ?_ | refine al_v (opx_sidx (k := 1) rfl hla) ⟨rfl, rfl, trivial⟩ trivial rfl ?_)) | (refine is_aw ?_; (first | refine aw_seq ?_ | refine aw_region ?_ | refine aw_skip ?_ | refine aw_ret ?_ | (refine is_cond ?_; (first | refine aw_cond_t rfl rfl ?_ | refine aw_cond_f rfl rfl ?_)))) | refine thn_r ?_)
  exact ret_row_raw trivial rfl rfl rfl ⟨by rw [f1], by rw [f2]; rfl⟩
theorem c_sPL3 (s : Str) (h : s.length < 2) : Con Tryz.prog 91 [rStr s] [] (PLp s) := by
  obtain ⟨f1, f2⟩ := prs_f (s := s) (fun l hl => by
    have := congrArg List.length (IsT_shape hl)
    rw [List.length_cons, List.length_append, List.length_singleton] at this
    omega)
  have d1 : decide ((s.length : Int) < 2) = true := decide_eq_true (by omega)
  refine con_of_aw (vars := [.tmp 2, .tmp 3]) [(0, .r (rStr s))] [] 0 Tryz.func91 (by kernel_rfl) rfl Tryz.ntmps91 rfl (by decide) rfl rfl rfl rfl rfl ?_; intro B M w0 ρ0 Z0
  repeat' (first | (refine is_al ?_; (first | (refine is_gd ?_; (first | refine al_off rfl rfl rfl (by assumption) rfl ?_ | (refine al_g rfl rfl rfl rfl ?_ ?_ <;> ((intro hgd; try exact absurd hgd (by decide)); (try (have hz := hgd; simp only [decide_eq_true_eq, decide_eq_false_iff_not, Bool.not_eq_true', Bool.not_eq_false', Bool.not_true, Bool.not_false, beq_iff_eq, Int.not_le, Int.not_lt] at hz)); (try (exfalso; omega)))))) | (refine is_move ?_; refine al_v (opx_move (.raw _)) ⟨rfl, trivial⟩ trivial rfl ?_) | (refine is_bin ?_; refine al_v opx_lss ⟨rfl, rfl, trivial⟩ trivial rfl ?_) | (refine is_assign ?_; (first | refine al_v (opx_assign (.raw _)) ⟨rfl, trivial⟩ trivial rfl ?_ | refine al_v (opx_assign (.own _)) ⟨rfl, trivial⟩ trivial rfl ?_)) | (refine is_pick ?_; (first | refine al_v (opx_pick_t (.raw _) rfl) ⟨rfl, rfl, trivial⟩ trivial rfl ?_ | refine al_v (opx_pick_t (.raw _) (by assumption)) ⟨rfl, rfl, trivial⟩ trivial rfl ?_)) | (refine is_bi ?_; refine al_v opx_len_str ⟨rfl, trivial⟩ trivial rfl ?_) | (refine is_bs ?_; refine al_n opx_lit0 trivial trivial rfl ?_) | refine al_nil ?_)) | (refine is_aw ?_; (first | refine aw_seq ?_ | refine aw_region ?_ | (refine is_cond ?_; refine aw_cond_t rfl rfl ?_))) | refine thn_n ?_)
  refine aw_le (le_ownNil 2 2 104 rfl) ?_
  repeat' (first | (refine is_aw ?_; refine aw_ret ?_) | refine thn_r ?_)
  exact ret_row_raw trivial rfl rfl rfl ⟨by rw [f1], by rw [f2]; rfl⟩
theorem c_sPL2 (a b : UInt8) (x : Str) (h : a ≠ 123 ∨ b ≠ 125) (hX : x.length ≤ 100000000) : Con Tryz.prog 91 [rStr (a :: (x ++ [b]))] [] (PLp (a :: (x ++ [b]))) := by
  obtain ⟨f1, f2⟩ := prs_f (s := a :: (x ++ [b])) (fun l hl => by
    have h1 := IsT_shape hl
    rw [List.cons.injEq] at h1
    obtain ⟨h2, h3⟩ := List.append_inj' h1.2 rfl
    rcases h with h | h
    · exact h h1.1
    · exact h (by simpa using h3))
  have hxl : (a :: (x ++ [b]) : Str).length = x.length + 2 := by rw [List.length_cons, List.length_append]; rfl
  have d1 : decide (((a :: (x ++ [b]) : Str).length : Int) < 2) = false := decide_eq_false (by omega)
  have hf : (a :: (x ++ [b]) : Str)[0]? = some a := rfl
  have hla : (a :: (x ++ [b]) : Str)[x.length + 1]? = some b := by simp
  refine con_of_aw (vars := [.tmp 2, .tmp 3]) [(0, .r (rStr (a :: (x ++ [b]))))] [] 0 Tryz.func91 (by kernel_rfl) rfl Tryz.ntmps91 rfl (by decide) rfl rfl rfl rfl rfl ?_; intro B M w0 ρ0 Z0
  by_cases ha : a = 123
  · have hb : b ≠ 125 := h.resolve_left (fun h => h ha)
    have e1 : (!decide ((a.toNat : Int) = 123)) = false := by rw [ha]; rfl
    have e2 : (!decide ((b.toNat : Int) = 125)) = true := by rw [decide_eq_false (fun h => hb (UInt8.toNat_inj.1 (by show b.toNat = 125; omega)))]; rfl
    repeat' (first | (refine is_al ?_; (first | (refine is_gd ?_; refine al_on rfl rfl rfl (by assumption) ?_) | (refine is_move ?_; refine al_v (opx_move (.raw _)) ⟨rfl, trivial⟩ trivial rfl ?_) | (refine is_bin ?_; (first | refine al_v opx_neq ⟨rfl, rfl, trivial⟩ trivial rfl ?_ | refine al_v opx_lss ⟨rfl, rfl, trivial⟩ trivial rfl ?_ | refine al_v (opx_sub (by unfold InR; omega)) ⟨rfl, rfl, trivial⟩ trivial rfl ?_)) | (refine is_assign ?_; (first | refine al_v (opx_assign (.raw _)) ⟨rfl, trivial⟩ trivial rfl ?_ | refine al_v (opx_assign (.own _)) ⟨rfl, trivial⟩ trivial rfl ?_)) | (refine is_pick ?_; refine al_v (opx_pick_f (.raw _) (by assumption)) ⟨rfl, rfl, trivial⟩ trivial rfl ?_) | (refine is_bi ?_; refine al_v opx_len_str ⟨rfl, trivial⟩ trivial rfl ?_) | (refine is_bs ?_; refine al_n opx_lit0 trivial trivial rfl ?_) | refine al_nil ?_ | refine al_v (opx_sidx (k := 0) rfl hf) ⟨rfl, rfl, trivial⟩ trivial rfl ?_ | refine al_v (opx_sidx (k := x.length + 1) (by omega) hla) ⟨rfl, rfl, trivial⟩ trivial rfl ?_)) | (refine is_ad ?_; (first | refine al_v (opx_sidx (k := 0) rfl hf) ⟨rfl, rfl, trivial⟩ trivial rfl ?_ | refine al_v (opx_sidx (k := x.length + 1) (by omega) hla) ⟨rfl, rfl, trivial⟩ trivial rfl ?_)) | (refine is_aw ?_; (first | refine aw_seq ?_ | refine aw_region ?_ | (refine is_cond ?_; refine aw_cond_t rfl (by assumption) ?_))) | refine thn_n ?_)
    refine aw_le (le_ownNil 2 2 104 rfl) ?_
    repeat' (first | (refine is_aw ?_; refine aw_ret ?_) | refine thn_r ?_)
    exact ret_row_raw trivial rfl rfl rfl ⟨by rw [f1], by rw [f2]; rfl⟩
  · have e1 : (!decide ((a.toNat : Int) = 123)) = true := by rw [decide_eq_false (fun h => ha (UInt8.toNat_inj.1 (by show a.toNat = 123; omega)))]; rfl
    repeat' (first | (refine is_al ?_; (first | (refine is_gd ?_; (first | refine al_on rfl rfl rfl (by assumption) ?_ | refine al_off rfl rfl rfl (by assumption) rfl ?_)) | (refine is_move ?_; refine al_v (opx_move (.raw _)) ⟨rfl, trivial⟩ trivial rfl ?_) | (refine is_bin ?_; (first | refine al_v opx_neq ⟨rfl, rfl, trivial⟩ trivial rfl ?_ | refine al_v opx_lss ⟨rfl, rfl, trivial⟩ trivial rfl ?_)) | (refine is_assign ?_; (first | refine al_v (opx_assign (.raw _)) ⟨rfl, trivial⟩ trivial rfl ?_ | refine al_v (opx_assign (.own _)) ⟨rfl, trivial⟩ trivial rfl ?_)) | (refine is_pick ?_; (first | refine al_v (opx_pick_t (.raw _) (by assumption)) ⟨rfl, rfl, trivial⟩ trivial rfl ?_ | refine al_v (opx_pick_f (.raw _) (by assumption)) ⟨rfl, rfl, trivial⟩ trivial rfl ?_)) | (refine is_bi ?_; refine al_v opx_len_str ⟨rfl, trivial⟩ trivial rfl ?_) | (refine is_bs ?_; refine al_n opx_lit0 trivial trivial rfl ?_) | refine al_nil ?_ | refine al_v (opx_sidx (k := 0) rfl hf) ⟨rfl, rfl, trivial⟩ trivial rfl ?_)) | (refine is_ad ?_; refine al_v (opx_sidx (k := 0) rfl hf) ⟨rfl, rfl, trivial⟩ trivial rfl ?_) | (refine is_aw ?_; (first | refine aw_seq ?_ | refine aw_region ?_ | (refine is_cond ?_; refine aw_cond_t rfl rfl ?_))) | refine thn_n ?_)
    refine aw_le (le_ownNil 2 2 104 rfl) ?_
    repeat' (first | (refine is_aw ?_; refine aw_ret ?_) | refine thn_r ?_)
    exact ret_row_raw trivial rfl rfl rfl ⟨by rw [f1], by rw [f2]; rfl⟩
theorem c_sparse (s : Str) (hs : s.length ≤ 100000000) : Con Tryz.prog 91 [rStr s] [] (PLp s) := by
  by_cases h : s.length < 2
  · exact c_sPL3 s h
  · obtain ⟨a, r, rfl⟩ : ∃ a r, s = a :: r := by
      cases s with
      | nil => simp at h
      | cons a r => exact ⟨a, r, rfl⟩
    rcases List.eq_nil_or_concat r with rfl | ⟨x, b, rfl⟩
    · simp at h
    · rw [List.concat_eq_append] at hs ⊢
      have hX : x.length ≤ 100000000 := by rw [List.length_cons, List.length_append] at hs; omega
      by_cases h2 : a ≠ 123 ∨ b ≠ 125
      · exact c_sPL2 a b x h2 hX
      · obtain ⟨rfl, rfl⟩ : a = 123 ∧ b = 125 := ⟨Classical.byContradiction fun h => h2 (.inl h), Classical.byContradiction fun h => h2 (.inr h)⟩
        by_cases hx : x = []
        · subst hx; exact c_sPL0
        · exact c_sPL1 x hx hX
end Go.Proofs.YtfoecgfboicphaaGreatDoor
