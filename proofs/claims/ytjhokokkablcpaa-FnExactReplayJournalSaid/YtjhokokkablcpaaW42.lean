/-
  Journals: the program's reading and replaying: the walks.
-/
import Derived.Test.YtjhokokkablcpaaW41
namespace Go.Proofs.Ytjhokokkablcpaa
open Go.RowKit
set_option linter.unusedVariables false
set_option linter.unusedSimpArgs false
attribute [local irreducible] AL AW OpX Le AD

noncomputable def rdL (b : By) : List Rec := if b.length ≤ 200 then rdJ b else []
noncomputable def rdM (b : By) : Int := if b.length ≤ 200 then ((ents (rdJ b)).length : Int) else -1
theorem ents_ge : ∀ {l : List Rec}, l.length ≤ (ents l).length
  | [] => Nat.le_refl _
  | r :: l => by
    have ih := ents_ge (l := l)
    have h := ent_len (r := r)
    simp only [ents, List.flatMap_cons, List.length_append, List.length_cons] at ih ⊢
    omega
theorem c_readEntry_s {b : By} {r : Rec} (hb : b.length ≤ 1048576) (h : rdE b = some r) : Con Try.prog 29 [slB b] [] (fun rs all => rs = [.agg [.c (cI r.1), .c (cI r.2.1), .c (cI r.2.2)], rI ((ent r).length : Int), rB true] ∧ all = []) := by
  have := c_readEntry b hb
  obtain ⟨e1, e2, e3⟩ := rdR_s h
  rw [e1, e2, e3] at this
  exact this
theorem c_readEntry_n {b : By} (hb : b.length ≤ 1048576) (h : rdE b = none) : Con Try.prog 29 [slB b] [] (fun rs all => rs = [.agg [.c (cI 0), .c (cI 0), .c (cI 0)], rI 0, rB false] ∧ all = []) := by
  have := c_readEntry b hb
  obtain ⟨e1, e2, e3⟩ := rdR_n h
  rw [e1, e2, e3] at this
  exact this
theorem c_ReadJournal (b : By) (hb : b.length ≤ 1048576) : Con Try.prog 17 [slB b] [] (fun rs all => rs = [.one (.own 0), rI (rdM b)] ∧ all = [.row 3 40 (rcRs (rdL b))]) := by
  have hl := byRs_len (bs := b)
  refine con_of_aw (vars := [.tmp 2, .tmp 3]) [(0, .r (slB b))] [] 0 Try.func17 (by kernel_rfl) rfl Try.ntmps17 rfl (by decide) rfl rfl rfl rfl rfl ?_
  intro B M w0 ρ0 Z0
  by_cases h1 : b.length ≤ 200
  · have d1 : decide (200 < ((byRs b).length : Int)) = false := decide_eq_false (by omega)
    have n1 : (!true) = false := rfl
    have n2 : (!false) = true := rfl
    repeat' (first | (refine is_al ?_; (first | (refine is_move ?_; refine al_v (opx_move (.sl _ _)) ⟨rfl, trivial⟩ trivial rfl ?_) | (refine is_bin ?_; refine al_v opx_gtr ⟨rfl, rfl, trivial⟩ trivial rfl ?_) | (refine is_assign ?_; refine al_v (opx_assign (.raw _)) ⟨rfl, trivial⟩ trivial rfl ?_) | (refine is_bi ?_; refine al_v opx_len_sl ⟨rfl, trivial⟩ trivial rfl ?_) | refine al_nil ?_)) | (refine is_aw ?_; (first | refine aw_seq ?_ | refine aw_region ?_ | refine aw_skip ?_ | refine aw_block ?_ | (refine is_cond ?_; refine aw_cond_f rfl (by assumption) ?_))))
    refine aw_le (le_ownNil 4 3 40 rfl) ?_
    refine aw_loop (γ := List Rec) (fun l => [(0, .r (slB b)), (4, .own 0), (5, .i ((ents l).length : Int))]) (fun l => [(0, .row 3 40 (rcRs l))]) (fun _ => 1)
      (fun l => ents l <+: b ∧ ∀ r ∈ l, okRec r) (fun l => b.length - (ents l).length) [] ⟨List.nil_prefix, fun r hr => (by cases hr)⟩ (le_mk [0] rfl rfl rfl rfl ⟨rfl, rfl, rfl, trivial⟩ ⟨rfl, trivial⟩) ?_
    rintro l ⟨h2, h3⟩
    obtain ⟨y, hy⟩ := h2
    have hly : b.length = (ents l).length + y.length := by rw [← hy, List.length_append]
    have hdy : b.drop (ents l).length = y := by rw [← hy, List.drop_left]
    have hge := ents_ge (l := l)
    have hcut : ((byRs b).take (byRs b).length).drop (ents l).length = byRs y := by rw [byRs_tl, hdy]
    cases he : rdE y with
    | none =>
      have hj : rdJ b = l := by rw [← hy, rdJ_ents h3, rdJ_stop he, List.append_nil]
      repeat' (first | (refine is_al ?_; (first | (refine is_move ?_; (first | refine al_v (opx_move (.raw _)) ⟨rfl, trivial⟩ trivial rfl ?_ | refine al_v (opx_move (.sl _ _)) ⟨rfl, trivial⟩ trivial rfl ?_ | refine al_v (opx_move (.own _)) ⟨rfl, trivial⟩ trivial rfl ?_ | refine al_v (opx_move (.tup _)) ⟨rfl, trivial⟩ trivial rfl ?_)) | (refine is_assign ?_; (first | refine al_v (opx_assign (.raw _)) ⟨rfl, trivial⟩ trivial rfl ?_ | refine al_v (opx_assign (.own _)) ⟨rfl, trivial⟩ trivial rfl ?_)) | (refine is_call ?_; refine al_callF (by (repeat (first | exact .nil | refine .one rfl rfl ?_ | refine .froz rfl rfl ?_ | refine .rnil rfl ?_ | refine .agg rfl (by (repeat (first | exact .nil | refine .cons (.same rfl) ?_ | refine .cons (.froz rfl) ?_ | refine .cons (.rnil) ?_)); (first | done | fail)) ?_)); (first | done | fail)) rfl (c_readEntry_n (by omega) he) rfl ?_) | (refine is_st ?_; refine al_s (opx_sts_box (by rfl) (by rfl)) ⟨rfl, rfl, trivial⟩ ⟨rfl, trivial⟩ ?_) | refine al_v opx_not ⟨rfl, trivial⟩ trivial rfl ?_ | refine al_v (opx_extract _ rfl) ⟨rfl, trivial⟩ trivial rfl ?_ | refine al_n opx_alloc trivial trivial rfl ?_ | refine al_nil ?_ | refine al_v (opx_cutL_sl (l := (ents l).length) (rows' := byRs y) hcut rfl (by omega)) ⟨rfl, rfl, trivial⟩ trivial rfl ?_)) | (refine is_ad ?_; refine al_v (opx_cutL_sl (l := (ents l).length) (rows' := byRs y) hcut rfl (by omega)) ⟨rfl, rfl, trivial⟩ trivial rfl ?_) | (refine is_aw ?_; (first | refine aw_seq ?_ | refine aw_region ?_ | refine aw_block ?_ | refine aw_ret ?_ | (refine is_cond ?_; refine aw_cond_t rfl rfl ?_))) | refine thn_r ?_ | refine inb_r ?_)
      exact ret_row_raw trivial rfl rfl rfl ⟨by rw [rdM, if_pos h1, hj], by rw [rdL, if_pos h1, hj]⟩
    | some r =>
      obtain ⟨k1, k2⟩ := rdE_iff.1 he
      have k3 := ent_len (r := r)
      have k4 := k2.length_le
      have hs := ents_snoc (l := l) (r := r)
      repeat' (first | (refine is_al ?_; (first | (refine is_move ?_; (first | refine al_v (opx_move (.raw _)) ⟨rfl, trivial⟩ trivial rfl ?_ | refine al_v (opx_move (.sl _ _)) ⟨rfl, trivial⟩ trivial rfl ?_ | refine al_v (opx_move (.own _)) ⟨rfl, trivial⟩ trivial rfl ?_ | refine al_v (opx_move (.tup _)) ⟨rfl, trivial⟩ trivial rfl ?_)) | (refine is_bin ?_; refine al_v (opx_add (by unfold InR; omega)) ⟨rfl, rfl, trivial⟩ trivial rfl ?_) | (refine is_load ?_; refine al_v opx_ld3_box ⟨rfl, trivial⟩ ⟨rfl, trivial⟩ rfl ?_) | (refine is_assign ?_; (first | refine al_v (opx_assign (.raw _)) ⟨rfl, trivial⟩ trivial rfl ?_ | refine al_v (opx_assign (.own _)) ⟨rfl, trivial⟩ trivial rfl ?_)) | (refine is_call ?_; refine al_callF (by (repeat (first | exact .nil | refine .one rfl rfl ?_ | refine .froz rfl rfl ?_ | refine .rnil rfl ?_ | refine .agg rfl (by (repeat (first | exact .nil | refine .cons (.same rfl) ?_ | refine .cons (.froz rfl) ?_ | refine .cons (.rnil) ?_)); (first | done | fail)) ?_)); (first | done | fail)) rfl (c_readEntry_s (by omega) he) rfl ?_) | (refine is_st ?_; refine al_s (opx_sts_box (by rfl) (by rfl)) ⟨rfl, rfl, trivial⟩ ⟨rfl, trivial⟩ ?_) | refine al_v opx_not ⟨rfl, trivial⟩ trivial rfl ?_ | refine al_v (opx_extract _ rfl) ⟨rfl, trivial⟩ trivial rfl ?_ | (refine is_bs ?_; refine al_pushR ⟨rfl, trivial⟩ rfl rfl rfl rfl rfl (by omega) ?_) | refine al_n opx_alloc trivial trivial rfl ?_ | refine al_nil ?_ | refine al_v (opx_cutL_sl (l := (ents l).length) (rows' := byRs y) hcut rfl (by omega)) ⟨rfl, rfl, trivial⟩ trivial rfl ?_)) | (refine is_ad ?_; refine al_v (opx_cutL_sl (l := (ents l).length) (rows' := byRs y) hcut rfl (by omega)) ⟨rfl, rfl, trivial⟩ trivial rfl ?_) | (refine is_aw ?_; (first | refine aw_seq ?_ | refine aw_region ?_ | refine aw_skip ?_ | refine aw_block ?_ | (refine is_cond ?_; refine aw_cond_f rfl rfl ?_))) | refine thn_n ?_ | refine inb_n ?_)
      exact ⟨l ++ [r], ⟨by rw [hs, ← hy]; exact (List.prefix_append_right_inj _).2 k2, all_snoc h3 k1⟩, by rw [hs, List.length_append]; omega, le_mk [3] rfl rfl rfl rfl ⟨rfl, rfl, by rw [hs, List.length_append]; exact congrArg AV.i (by omega), trivial⟩ ⟨rfl, trivial⟩⟩
  · have d1 : decide (200 < ((byRs b).length : Int)) = true := decide_eq_true (by omega)
    repeat' (first | (refine is_al ?_; (first | (refine is_move ?_; refine al_v (opx_move (.sl _ _)) ⟨rfl, trivial⟩ trivial rfl ?_) | (refine is_bin ?_; refine al_v opx_gtr ⟨rfl, rfl, trivial⟩ trivial rfl ?_) | (refine is_assign ?_; refine al_v (opx_assign (.raw _)) ⟨rfl, trivial⟩ trivial rfl ?_) | (refine is_bi ?_; refine al_v opx_len_sl ⟨rfl, trivial⟩ trivial rfl ?_) | refine al_nil ?_)) | (refine is_aw ?_; (first | refine aw_seq ?_ | refine aw_region ?_ | (refine is_cond ?_; refine aw_cond_t rfl (by assumption) ?_))) | refine thn_n ?_)
    refine aw_le (le_ownNil 2 3 40 rfl) ?_
    repeat' (first | (refine is_aw ?_; refine aw_ret ?_) | refine thn_r ?_)
    exact ret_row_raw trivial rfl rfl rfl ⟨by rw [rdM, if_neg h1], by rw [rdL, if_neg h1]; rfl⟩
theorem c_ReadJournal' (b : By) (hb : b.length ≤ 1048576) : Con Try.prog 17 [slB b] [] (fun rs all => rs = [.one (.c (.sl 3 (rcRs (rdL b)))), rI (rdM b)] ∧ all = []) :=
  (c_ReadJournal b hb).froz fun rs all ⟨h1, h2⟩ => by subst h1 h2; exact ⟨⟨rfl, rfl⟩, rfl⟩
/-! ### replaying -/
open Classical in
noncomputable def rpB (b : By) (s : Int) : Bool := decide (b.length ≤ 200 ∧ (0 ≤ s ∧ s < 8) ∧ (rpl (rdJ b) s).length ≤ 16)
noncomputable def rpR (b : By) (s : Int) : List Pt := if rpB b s = true then rpl (rdJ b) s else []
theorem rpB_t {b : By} {s : Int} (h : b.length ≤ 200) (h2 : 0 ≤ s ∧ s < 8) (h3 : (rpl (rdJ b) s).length ≤ 16) : rpB b s = true := by simp [rpB, h, h2, h3]
theorem rpB_f {b : By} {s : Int} (h : ¬ (b.length ≤ 200 ∧ (0 ≤ s ∧ s < 8) ∧ (rpl (rdJ b) s).length ≤ 16)) : rpB b s = false := by unfold rpB; exact decide_eq_false h
theorem rpB_of {b : By} {s : Int} (h : rpB b s = true) : b.length ≤ 200 ∧ (0 ≤ s ∧ s < 8) ∧ (rpl (rdJ b) s).length ≤ 16 := by unfold rpB at h; exact of_decide_eq_true h
theorem rpl_take_le {l : List Rec} {s : Int} {k : Nat} : (rpl (l.take k) s).length ≤ (rpl l s).length := by
  have := rpl_mono (l := l.take k) (m := l.drop k) (s := s)
  rwa [List.take_append_drop] at this
theorem rpl_take_t {l : List Rec} {s : Int} {k : Nat} {r : Rec} (h : l[k]? = some r) (h2 : r.1 = s) : rpl (l.take (k + 1)) s = put (rpl (l.take k) s) r.2 := by
  rw [List.take_add_one, h]; exact rpl_snoc_t h2
theorem rpl_take_f {l : List Rec} {s : Int} {k : Nat} {r : Rec} (h : l[k]? = some r) (h2 : r.1 ≠ s) : rpl (l.take (k + 1)) s = rpl (l.take k) s := by
  rw [List.take_add_one, h]; exact rpl_snoc_f h2
theorem c_ReplayJournal (b : By) (s : Int) (hb : b.length ≤ 1048576) : Con Try.prog 9 [slB b, rI s] [] (fun rs all => rs = [.one (.own 0), rB (rpB b s)] ∧ all = [.row 2 38 (ptRs (rpR b s))]) := by
  refine con_of_aw (vars := [.tmp 4, .tmp 5]) [(0, .r (slB b)), (1, .r (rI s))] [] 0 Try.func9 (by kernel_rfl) rfl Try.ntmps9 rfl (by decide) rfl rfl rfl rfl rfl ?_
  intro B M w0 ρ0 Z0
  by_cases h1 : b.length ≤ 200
  · have d1 : decide (rdM b < 0) = false := decide_eq_false (by rw [rdM, if_pos h1]; omega)
    by_cases h2 : s < 0
    · have d2 : decide (s < 0) = true := decide_eq_true h2
      have hf : rpB b s = false := rpB_f fun h => by have := h.2.1; omega
      repeat' (first | (refine is_al ?_; (first | (refine is_gd ?_; (first | refine al_on rfl rfl rfl (by assumption) ?_ | refine al_off rfl rfl rfl (by assumption) rfl ?_)) | (refine is_move ?_; (first | refine al_v (opx_move (.raw _)) ⟨rfl, trivial⟩ trivial rfl ?_ | refine al_v (opx_move (.sl _ _)) ⟨rfl, trivial⟩ trivial rfl ?_ | refine al_v (opx_move (.tup _)) ⟨rfl, trivial⟩ trivial rfl ?_)) | (refine is_bin ?_; refine al_v opx_lss ⟨rfl, rfl, trivial⟩ trivial rfl ?_) | (refine is_assign ?_; (first | refine al_v (opx_assign (.raw _)) ⟨rfl, trivial⟩ trivial rfl ?_ | refine al_v (opx_assign (.sl _ _)) ⟨rfl, trivial⟩ trivial rfl ?_)) | (refine is_pick ?_; (first | refine al_v (opx_pick_t (.raw _) (by assumption)) ⟨rfl, rfl, trivial⟩ trivial rfl ?_ | refine al_v (opx_pick_f (.raw _) (by assumption)) ⟨rfl, rfl, trivial⟩ trivial rfl ?_)) | (refine is_call ?_; refine al_callF (by (repeat (first | exact .nil | refine .one rfl rfl ?_ | refine .froz rfl rfl ?_ | refine .rnil rfl ?_ | refine .agg rfl (by (repeat (first | exact .nil | refine .cons (.same rfl) ?_ | refine .cons (.froz rfl) ?_ | refine .cons (.rnil) ?_)); (first | done | fail)) ?_)); (first | done | fail)) rfl (c_ReadJournal' _ hb) rfl ?_) | refine al_v (opx_extract _ rfl) ⟨rfl, trivial⟩ trivial rfl ?_ | refine al_nil ?_)) | (refine is_aw ?_; (first | refine aw_seq ?_ | refine aw_region ?_ | (refine is_cond ?_; refine aw_cond_t rfl rfl ?_))) | refine thn_n ?_)
      refine aw_le (le_ownNil 4 2 38 rfl) ?_
      repeat' (first | (refine is_aw ?_; refine aw_ret ?_) | refine thn_r ?_)
      exact ret_row_raw trivial rfl rfl rfl ⟨by rw [hf], by rw [rpR, hf]; rfl⟩
    have d2 : decide (s < 0) = false := decide_eq_false h2
    by_cases h3 : 8 ≤ s
    · have d3 : decide (8 ≤ s) = true := decide_eq_true h3
      have hf : rpB b s = false := rpB_f fun h => by have := h.2.1; omega
      repeat' (first | (refine is_al ?_; (first | (refine is_gd ?_; refine al_on rfl rfl rfl (by assumption) ?_) | (refine is_move ?_; (first | refine al_v (opx_move (.raw _)) ⟨rfl, trivial⟩ trivial rfl ?_ | refine al_v (opx_move (.sl _ _)) ⟨rfl, trivial⟩ trivial rfl ?_ | refine al_v (opx_move (.tup _)) ⟨rfl, trivial⟩ trivial rfl ?_)) | (refine is_bin ?_; (first | refine al_v opx_lss ⟨rfl, rfl, trivial⟩ trivial rfl ?_ | refine al_v opx_geq ⟨rfl, rfl, trivial⟩ trivial rfl ?_)) | (refine is_assign ?_; (first | refine al_v (opx_assign (.raw _)) ⟨rfl, trivial⟩ trivial rfl ?_ | refine al_v (opx_assign (.sl _ _)) ⟨rfl, trivial⟩ trivial rfl ?_)) | (refine is_pick ?_; refine al_v (opx_pick_f (.raw _) (by assumption)) ⟨rfl, rfl, trivial⟩ trivial rfl ?_) | (refine is_call ?_; refine al_callF (by (repeat (first | exact .nil | refine .one rfl rfl ?_ | refine .froz rfl rfl ?_ | refine .rnil rfl ?_ | refine .agg rfl (by (repeat (first | exact .nil | refine .cons (.same rfl) ?_ | refine .cons (.froz rfl) ?_ | refine .cons (.rnil) ?_)); (first | done | fail)) ?_)); (first | done | fail)) rfl (c_ReadJournal' _ hb) rfl ?_) | refine al_v (opx_extract _ rfl) ⟨rfl, trivial⟩ trivial rfl ?_ | refine al_nil ?_)) | (refine is_aw ?_; (first | refine aw_seq ?_ | refine aw_region ?_ | (refine is_cond ?_; refine aw_cond_t rfl (by assumption) ?_))) | refine thn_n ?_)
      refine aw_le (le_ownNil 4 2 38 rfl) ?_
      repeat' (first | (refine is_aw ?_; refine aw_ret ?_) | refine thn_r ?_)
      exact ret_row_raw trivial rfl rfl rfl ⟨by rw [hf], by rw [rpR, hf]; rfl⟩
    have d3 : decide (8 ≤ s) = false := decide_eq_false h3
    have hL : rdL b = rdJ b := by rw [rdL, if_pos h1]
    have hok := rdJ_okr (b := b)
    have hlr := rcRs_len (xs := rdJ b)
    have hll : (rdJ b).length ≤ 200 := by
      have a1 := ents_ge (l := rdJ b)
      have a2 := (rdJ_pre (b := b)).length_le
      omega
    repeat' (first | (refine is_al ?_; (first | (refine is_gd ?_; refine al_on rfl rfl rfl (by assumption) ?_) | (refine is_move ?_; (first | refine al_v (opx_move (.raw _)) ⟨rfl, trivial⟩ trivial rfl ?_ | refine al_v (opx_move (.sl _ _)) ⟨rfl, trivial⟩ trivial rfl ?_ | refine al_v (opx_move (.tup _)) ⟨rfl, trivial⟩ trivial rfl ?_)) | (refine is_bin ?_; (first | refine al_v opx_lss ⟨rfl, rfl, trivial⟩ trivial rfl ?_ | refine al_v opx_geq ⟨rfl, rfl, trivial⟩ trivial rfl ?_)) | (refine is_assign ?_; (first | refine al_v (opx_assign (.raw _)) ⟨rfl, trivial⟩ trivial rfl ?_ | refine al_v (opx_assign (.sl _ _)) ⟨rfl, trivial⟩ trivial rfl ?_)) | (refine is_pick ?_; refine al_v (opx_pick_f (.raw _) (by assumption)) ⟨rfl, rfl, trivial⟩ trivial rfl ?_) | (refine is_bi ?_; refine al_v opx_len_sl ⟨rfl, trivial⟩ trivial rfl ?_) | (refine is_call ?_; refine al_callF (by (repeat (first | exact .nil | refine .one rfl rfl ?_ | refine .froz rfl rfl ?_ | refine .rnil rfl ?_ | refine .agg rfl (by (repeat (first | exact .nil | refine .cons (.same rfl) ?_ | refine .cons (.froz rfl) ?_ | refine .cons (.rnil) ?_)); (first | done | fail)) ?_)); (first | done | fail)) rfl (c_ReadJournal' _ hb) rfl ?_) | refine al_v (opx_extract _ rfl) ⟨rfl, trivial⟩ trivial rfl ?_ | refine al_nil ?_)) | (refine is_aw ?_; (first | refine aw_seq ?_ | refine aw_region ?_ | refine aw_skip ?_ | refine aw_block ?_ | (refine is_cond ?_; refine aw_cond_f rfl (by assumption) ?_))))
    rw [hL]
    refine aw_le (le_ownNil 8 2 38 rfl) ?_
    refine aw_loop (γ := Nat) (fun k => [(1, .i s), (8, .own 0), (28, .sl 3 (rcRs (rdJ b))), (29, .i ((rcRs (rdJ b)).length : Int)), (30, .i (k : Int))]) (fun k => [(0, .row 2 38 (ptRs (rpl ((rdJ b).take k) s)))]) (fun _ => 1)
      (fun k => k ≤ (rdJ b).length ∧ (rpl ((rdJ b).take k) s).length ≤ 16) (fun k => (rdJ b).length - k) 0 ⟨Nat.zero_le _, Nat.zero_le _⟩ (le_mk [0] rfl rfl rfl rfl ⟨rfl, rfl, rfl, rfl, rfl, trivial⟩ ⟨rfl, trivial⟩) ?_
    rintro k ⟨hk, h16⟩
    rcases Nat.lt_or_ge k (rdJ b).length with hlt | hge
    · have hc1 : decide ((k : Int) < ((rcRs (rdJ b)).length : Int)) = true := decide_eq_true (by omega)
      obtain ⟨r, hr⟩ : ∃ r, (rdJ b)[k]? = some r := ⟨_, List.getElem?_eq_getElem hlt⟩
      have hrr := rcRs_at hr
      have hrk := hok r (List.mem_of_getElem? hr)
      by_cases h5 : r.1 = s
      · have d5 : (!decide (r.1 = s)) = false := by rw [decide_eq_true h5]; rfl
        have ht := rpl_take_t hr h5
        have hVS : VS (rpl ((rdJ b).take k) s) := VS_iff.2 ⟨h16, rpl_ok fun x hx => hok x (List.mem_of_mem_take hx), rpl_asc⟩
        by_cases h6 : (put (rpl ((rdJ b).take k) s) r.2).length ≤ 16
        · have e1 : putB (rpl ((rdJ b).take k) s) r.2.1 r.2.2 = true := by
            rw [putB, vsB_t hVS, ptOk_iff.2 hrk.2.2, decide_eq_true h6]; rfl
          have e2 : putR (rpl ((rdJ b).take k) s) r.2.1 r.2.2 = put (rpl ((rdJ b).take k) s) r.2 := by rw [putR, if_pos e1]
          have n1 : (!putB (rpl ((rdJ b).take k) s) r.2.1 r.2.2) = false := by rw [e1]; rfl
          repeat' (first | (refine is_al ?_; (first | (refine is_move ?_; (first | refine al_v (opx_move (.raw _)) ⟨rfl, trivial⟩ trivial rfl ?_ | refine al_v (opx_move (.own _)) ⟨rfl, trivial⟩ trivial rfl ?_ | refine al_v (opx_move (.tup _)) ⟨rfl, trivial⟩ trivial rfl ?_)) | (refine is_bin ?_; (first | refine al_v opx_neq ⟨rfl, rfl, trivial⟩ trivial rfl ?_ | refine al_v opx_lss ⟨rfl, rfl, trivial⟩ trivial rfl ?_ | refine al_v (opx_add (by unfold InR; omega)) ⟨rfl, rfl, trivial⟩ trivial rfl ?_)) | (refine is_load ?_; (first | refine al_v (opx_ld_box rfl) ⟨rfl, trivial⟩ ⟨rfl, trivial⟩ rfl ?_ | refine al_v opx_ld3_imm ⟨rfl, trivial⟩ trivial rfl ?_)) | (refine is_fa ?_; refine al_v opx_fa_ref ⟨rfl, trivial⟩ trivial rfl ?_) | (refine is_assign ?_; (first | refine al_v (opx_assign (.raw _)) ⟨rfl, trivial⟩ trivial rfl ?_ | refine al_v (opx_assign (.own _)) ⟨rfl, trivial⟩ trivial rfl ?_)) | (refine is_ia ?_; refine al_v (opx_ia_sl2 hrr (by omega)) ⟨rfl, rfl, trivial⟩ trivial rfl ?_) | (refine is_call ?_; refine al_callrv_ro2 (by (repeat (first | exact .nil | refine .one rfl rfl ?_ | refine .froz rfl rfl ?_ | refine .row rfl rfl rfl ?_ | refine .rnil rfl ?_ | refine .agg rfl (by (repeat (first | exact .nil | refine .cons (.same rfl) ?_ | refine .cons (.froz rfl) ?_ | refine .cons (.rnil) ?_ | refine .cons (.row rfl rfl) ?_)); (first | done | fail)) ?_)); (first | done | fail)) rfl (c_PutPoint _ _ _) (by first | assumption | exact ptRs_flat | exact inRs_flat | exact byRs_flat | exact lbRs_flat | exact stRs_flat | exact rcRs_flat | simp [flatRows, CV.flat]) ?_) | (refine is_st ?_; refine al_s (opx_sts_box (by rfl) (by rfl)) ⟨rfl, rfl, trivial⟩ ⟨rfl, trivial⟩ ?_) | refine al_v opx_not ⟨rfl, trivial⟩ trivial rfl ?_ | refine al_v (opx_extract _ rfl) ⟨rfl, trivial⟩ trivial rfl ?_ | refine al_n opx_alloc trivial trivial rfl ?_ | refine al_nil ?_ | refine al_v (opx_lds_box (ys := [_, _]) (by simp [splice]) rfl) ⟨rfl, trivial⟩ ⟨rfl, trivial⟩ rfl ?_)) | (refine is_ad ?_; refine al_v (opx_lds_box (ys := [_, _]) (by simp [splice]) rfl) ⟨rfl, trivial⟩ ⟨rfl, trivial⟩ rfl ?_) | (refine is_aw ?_; (first | refine aw_seq ?_ | refine aw_region ?_ | refine aw_skip ?_ | refine aw_block ?_ | (refine is_cond ?_; (first | refine aw_cond_t rfl (by assumption) ?_ | refine aw_cond_f rfl (by assumption) ?_)))) | refine thn_n ?_)
          exact ⟨k + 1, ⟨hlt, by rw [ht]; exact h6⟩, by omega, le_mk [2] rfl rfl rfl rfl ⟨rfl, rfl, rfl, rfl, rfl, trivial⟩ ⟨by rw [ht, ← e2]; rfl, trivial⟩⟩
        · have e1 : putB (rpl ((rdJ b).take k) s) r.2.1 r.2.2 = false := by
            rw [putB, vsB_t hVS, ptOk_iff.2 hrk.2.2, decide_eq_false h6]; rfl
          have n1 : (!putB (rpl ((rdJ b).take k) s) r.2.1 r.2.2) = true := by rw [e1]; rfl
          have hf : rpB b s = false := rpB_f fun h => by
            have a1 := rpl_take_le (l := rdJ b) (s := s) (k := k + 1)
            rw [ht] at a1
            have a2 := h.2.2
            omega
          repeat' (first | (refine is_al ?_; (first | (refine is_move ?_; (first | refine al_v (opx_move (.raw _)) ⟨rfl, trivial⟩ trivial rfl ?_ | refine al_v (opx_move (.own _)) ⟨rfl, trivial⟩ trivial rfl ?_ | refine al_v (opx_move (.tup _)) ⟨rfl, trivial⟩ trivial rfl ?_)) | (refine is_bin ?_; (first | refine al_v opx_neq ⟨rfl, rfl, trivial⟩ trivial rfl ?_ | refine al_v opx_lss ⟨rfl, rfl, trivial⟩ trivial rfl ?_)) | (refine is_load ?_; (first | refine al_v (opx_ld_box rfl) ⟨rfl, trivial⟩ ⟨rfl, trivial⟩ rfl ?_ | refine al_v opx_ld3_imm ⟨rfl, trivial⟩ trivial rfl ?_)) | (refine is_fa ?_; refine al_v opx_fa_ref ⟨rfl, trivial⟩ trivial rfl ?_) | (refine is_assign ?_; (first | refine al_v (opx_assign (.raw _)) ⟨rfl, trivial⟩ trivial rfl ?_ | refine al_v (opx_assign (.own _)) ⟨rfl, trivial⟩ trivial rfl ?_)) | (refine is_ia ?_; refine al_v (opx_ia_sl2 hrr (by omega)) ⟨rfl, rfl, trivial⟩ trivial rfl ?_) | (refine is_call ?_; refine al_callrv_ro2 (by (repeat (first | exact .nil | refine .one rfl rfl ?_ | refine .froz rfl rfl ?_ | refine .row rfl rfl rfl ?_ | refine .rnil rfl ?_ | refine .agg rfl (by (repeat (first | exact .nil | refine .cons (.same rfl) ?_ | refine .cons (.froz rfl) ?_ | refine .cons (.rnil) ?_ | refine .cons (.row rfl rfl) ?_)); (first | done | fail)) ?_)); (first | done | fail)) rfl (c_PutPoint _ _ _) (by first | assumption | exact ptRs_flat | exact inRs_flat | exact byRs_flat | exact lbRs_flat | exact stRs_flat | exact rcRs_flat | simp [flatRows, CV.flat]) ?_) | (refine is_st ?_; refine al_s (opx_sts_box (by rfl) (by rfl)) ⟨rfl, rfl, trivial⟩ ⟨rfl, trivial⟩ ?_) | refine al_v opx_not ⟨rfl, trivial⟩ trivial rfl ?_ | refine al_v (opx_extract _ rfl) ⟨rfl, trivial⟩ trivial rfl ?_ | refine al_n opx_alloc trivial trivial rfl ?_ | refine al_nil ?_ | refine al_v (opx_lds_box (ys := [_, _]) (by simp [splice]) rfl) ⟨rfl, trivial⟩ ⟨rfl, trivial⟩ rfl ?_)) | (refine is_ad ?_; refine al_v (opx_lds_box (ys := [_, _]) (by simp [splice]) rfl) ⟨rfl, trivial⟩ ⟨rfl, trivial⟩ rfl ?_) | (refine is_aw ?_; (first | refine aw_seq ?_ | refine aw_region ?_ | refine aw_skip ?_ | refine aw_block ?_ | (refine is_cond ?_; (first | refine aw_cond_t rfl (by assumption) ?_ | refine aw_cond_f rfl (by assumption) ?_)))) | refine thn_n ?_)
          refine aw_le (le_ownNil 4 2 38 rfl) ?_
          repeat' (first | (refine is_aw ?_; refine aw_ret ?_) | refine thn_r ?_ | refine inb_r ?_)
          exact ret_row_raw trivial rfl rfl rfl ⟨by rw [hf], by rw [rpR, hf]; rfl⟩
      · have d5 : (!decide (r.1 = s)) = true := by rw [decide_eq_false h5]; rfl
        have ht := rpl_take_f hr h5
        repeat' (first | (refine is_al ?_; (first | (refine is_move ?_; refine al_v (opx_move (.raw _)) ⟨rfl, trivial⟩ trivial rfl ?_) | (refine is_bin ?_; (first | refine al_v opx_neq ⟨rfl, rfl, trivial⟩ trivial rfl ?_ | refine al_v opx_lss ⟨rfl, rfl, trivial⟩ trivial rfl ?_ | refine al_v (opx_add (by unfold InR; omega)) ⟨rfl, rfl, trivial⟩ trivial rfl ?_)) | (refine is_load ?_; (first | refine al_v (opx_ld_box rfl) ⟨rfl, trivial⟩ ⟨rfl, trivial⟩ rfl ?_ | refine al_v opx_ld3_imm ⟨rfl, trivial⟩ trivial rfl ?_)) | (refine is_fa ?_; refine al_v opx_fa_ref ⟨rfl, trivial⟩ trivial rfl ?_) | (refine is_ia ?_; refine al_v (opx_ia_sl2 hrr (by omega)) ⟨rfl, rfl, trivial⟩ trivial rfl ?_) | (refine is_st ?_; refine al_s (opx_sts_box (by rfl) (by rfl)) ⟨rfl, rfl, trivial⟩ ⟨rfl, trivial⟩ ?_) | refine al_n opx_alloc trivial trivial rfl ?_ | refine al_nil ?_)) | (refine is_aw ?_; (first | refine aw_seq ?_ | refine aw_region ?_ | refine aw_skip ?_ | refine aw_block ?_ | refine aw_exit ?_ | (refine is_cond ?_; refine aw_cond_t rfl (by assumption) ?_))) | refine thn_n ?_)
        exact ⟨k + 1, ⟨hlt, by rw [ht]; exact h16⟩, by omega, le_mk [0] rfl rfl rfl rfl ⟨rfl, rfl, rfl, rfl, rfl, trivial⟩ ⟨by rw [ht]; rfl, trivial⟩⟩
    · have hc1 : decide ((k : Int) < ((rcRs (rdJ b)).length : Int)) = false := decide_eq_false (by omega)
      rw [List.take_of_length_le hge] at h16 ⊢
      have ht := rpB_t h1 ⟨by omega, by omega⟩ h16
      repeat' (first | (refine is_al ?_; (first | (refine is_move ?_; refine al_v (opx_move (.own _)) ⟨rfl, trivial⟩ trivial rfl ?_) | (refine is_bin ?_; refine al_v opx_lss ⟨rfl, rfl, trivial⟩ trivial rfl ?_) | (refine is_assign ?_; (first | refine al_v (opx_assign (.raw _)) ⟨rfl, trivial⟩ trivial rfl ?_ | refine al_v (opx_assign (.own _)) ⟨rfl, trivial⟩ trivial rfl ?_)) | refine al_nil ?_)) | (refine is_aw ?_; (first | refine aw_seq ?_ | refine aw_region ?_ | refine aw_ret ?_ | refine aw_exit ?_ | (refine is_cond ?_; refine aw_cond_f rfl (by assumption) ?_))))
      exact ret_row_raw trivial rfl rfl rfl ⟨by rw [ht], by rw [rpR, if_pos ht]⟩
  · have d1 : decide (rdM b < 0) = true := decide_eq_true (by rw [rdM, if_neg h1]; omega)
    have hf : rpB b s = false := rpB_f fun h => h1 h.1
    repeat' (first | (refine is_al ?_; (first | (refine is_gd ?_; (first | refine al_off rfl rfl rfl (by assumption) rfl ?_ | (refine al_g rfl rfl rfl rfl ?_ ?_ <;> ((intro hgd; try exact absurd hgd (by decide)); (try (have hz := hgd; simp only [decide_eq_true_eq, decide_eq_false_iff_not, Bool.not_eq_true', Bool.not_eq_false', Bool.not_true, Bool.not_false, beq_iff_eq, Int.not_le, Int.not_lt] at hz)); (try (exfalso; omega)))))) | (refine is_move ?_; (first | refine al_v (opx_move (.raw _)) ⟨rfl, trivial⟩ trivial rfl ?_ | refine al_v (opx_move (.sl _ _)) ⟨rfl, trivial⟩ trivial rfl ?_ | refine al_v (opx_move (.tup _)) ⟨rfl, trivial⟩ trivial rfl ?_)) | (refine is_bin ?_; refine al_v opx_lss ⟨rfl, rfl, trivial⟩ trivial rfl ?_) | (refine is_assign ?_; (first | refine al_v (opx_assign (.raw _)) ⟨rfl, trivial⟩ trivial rfl ?_ | refine al_v (opx_assign (.sl _ _)) ⟨rfl, trivial⟩ trivial rfl ?_)) | (refine is_pick ?_; (first | refine al_v (opx_pick_t (.raw _) rfl) ⟨rfl, rfl, trivial⟩ trivial rfl ?_ | refine al_v (opx_pick_t (.raw _) (by assumption)) ⟨rfl, rfl, trivial⟩ trivial rfl ?_)) | (refine is_call ?_; refine al_callF (by (repeat (first | exact .nil | refine .one rfl rfl ?_ | refine .froz rfl rfl ?_ | refine .rnil rfl ?_ | refine .agg rfl (by (repeat (first | exact .nil | refine .cons (.same rfl) ?_ | refine .cons (.froz rfl) ?_ | refine .cons (.rnil) ?_)); (first | done | fail)) ?_)); (first | done | fail)) rfl (c_ReadJournal' _ hb) rfl ?_) | refine al_v (opx_extract _ rfl) ⟨rfl, trivial⟩ trivial rfl ?_ | refine al_nil ?_)) | (refine is_aw ?_; (first | refine aw_seq ?_ | refine aw_region ?_ | (refine is_cond ?_; refine aw_cond_t rfl rfl ?_))) | refine thn_n ?_)
    refine aw_le (le_ownNil 4 2 38 rfl) ?_
    repeat' (first | (refine is_aw ?_; refine aw_ret ?_) | refine thn_r ?_)
    exact ret_row_raw trivial rfl rfl rfl ⟨by rw [hf], by rw [rpR, hf]; rfl⟩
theorem c_ReplayJournal' (b : By) (s : Int) (hb : b.length ≤ 1048576) : Con Try.prog 9 [slB b, rI s] [] (fun rs all => rs = [slP (rpR b s), rB (rpB b s)] ∧ all = []) :=
  (c_ReplayJournal b s hb).froz fun rs all ⟨h1, h2⟩ => by subst h1 h2; exact ⟨⟨rfl, rfl⟩, rfl⟩
end Go.Proofs.Ytjhokokkablcpaa
