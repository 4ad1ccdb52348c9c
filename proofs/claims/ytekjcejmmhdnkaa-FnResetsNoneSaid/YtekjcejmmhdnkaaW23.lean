/-
  Resets: the walks, the law.
-/
import Derived.Test.YtekjcejmmhdnkaaW8
import Derived.Test.YtekjcejmmhdnkaaW5
namespace Go.Proofs.Ytekjcejmmhdnkaa
open Go.RowKit
set_option linter.unusedVariables false
set_option linter.unusedSimpArgs false
attribute [local irreducible] AL AW OpX Le AD

/-- How many of the first n values are followed by a smaller one. -/
def flsTo (ps : List Pt) (n : Nat) : Nat := (List.range n).countP fun k => decide (vAt ps (k + 1) < vAt ps k)
theorem flsTo_succ {ps : List Pt} {n : Nat} : flsTo ps (n + 1) = flsTo ps n + if vAt ps (n + 1) < vAt ps n then 1 else 0 := by
  simp [flsTo, List.range_succ, List.countP_append, List.countP_cons]
theorem flsTo_le {ps : List Pt} {n : Nat} : flsTo ps n ≤ n := by
  have := List.countP_le_length (p := fun k => decide (vAt ps (k + 1) < vAt ps k)) (l := List.range n)
  rw [List.length_range] at this
  exact this
def falls (ps : List Pt) : Nat := flsTo ps (ps.length - 1)
theorem falls_zero {ps : List Pt} (h : ps.Pairwise fun a b => a.2 ≤ b.2) : falls ps = 0 := by
  rw [falls, flsTo, List.countP_eq_zero]
  intro k hk
  have hk := List.mem_range.1 hk
  have h1 := List.pairwise_iff_getElem.1 h k (k + 1) (by omega) (by omega) (by omega)
  rw [vAt_some (List.getElem?_eq_getElem (show k + 1 < ps.length by omega)), vAt_some (List.getElem?_eq_getElem (show k < ps.length by omega))]
  simp; omega
noncomputable def resI (ps : List Pt) (lo hi : Int) : Int := if vrB ps lo hi = true then (falls (rng ps lo hi) : Int) else -1
theorem c_Resets (ps : List Pt) (lo hi : Int) : Con Try.prog 32 [slP ps, rI lo, rI hi] [] (fun rs all => rs = [rI (resI ps lo hi)] ∧ all = []) := by
  refine con_of_aw (vars := [.tmp 6]) [(0, .r (slP ps)), (1, .r (rI lo)), (2, .r (rI hi))] [] 0 Try.func32 (by kernel_rfl) rfl Try.ntmps32 rfl (by decide) rfl rfl rfl rfl rfl ?_
  intro B M w0 ρ0 Z0
  by_cases hv : vrB ps lo hi = true
  · have hn : (!vrB ps lo hi) = false := by rw [hv]; rfl
    have e : rngR ps lo hi = rng ps lo hi := by rw [rngR, if_pos hv]
    have hvs : VS ps := by rw [vrB, Bool.and_eq_true] at hv; exact vsB_iff.1 hv.1
    have hl := (VS_rng (lo := lo) (hi := hi) hvs).1
    have hlr := ptRs_len (ps := rng ps lo hi)
    repeat' (first | (refine is_al ?_; (first | (refine is_move ?_; (first | refine al_v (opx_move (.raw _)) ⟨rfl, trivial⟩ trivial rfl ?_ | refine al_v (opx_move (.sl _ _)) ⟨rfl, trivial⟩ trivial rfl ?_)) | (refine is_assign ?_; (first | refine al_v (opx_assign (.raw _)) ⟨rfl, trivial⟩ trivial rfl ?_ | refine al_v (opx_assign (.sl _ _)) ⟨rfl, trivial⟩ trivial rfl ?_)) | (refine is_call ?_; (first | refine al_callv2 (by (repeat (first | exact .nil | refine .one rfl rfl ?_ | refine .froz rfl rfl ?_ | refine .row rfl rfl ?_ | refine .rnil rfl ?_ | refine .agg rfl (by (repeat (first | exact .nil | refine .cons (.same rfl) ?_ | refine .cons (.froz rfl) ?_ | refine .cons (.rnil) ?_ | refine .cons (.row rfl rfl) ?_)); (first | done | fail)) ?_)); (first | done | fail)) rfl (c_validRange _ _ _) rfl ?_ | refine al_callF (by (repeat (first | exact .nil | refine .one rfl rfl ?_ | refine .froz rfl rfl ?_ | refine .rnil rfl ?_ | refine .agg rfl (by (repeat (first | exact .nil | refine .cons (.same rfl) ?_ | refine .cons (.froz rfl) ?_ | refine .cons (.rnil) ?_)); (first | done | fail)) ?_)); (first | done | fail)) rfl (c_RangeOf' _ _ _) rfl ?_)) | refine al_v opx_not ⟨rfl, trivial⟩ trivial rfl ?_ | refine al_nil ?_)) | (refine is_aw ?_; (first | refine aw_seq ?_ | refine aw_region ?_ | refine aw_skip ?_ | refine aw_block ?_ | (refine is_cond ?_; refine aw_cond_f rfl (by assumption) ?_))))
    rw [e]
    refine aw_loop (γ := Nat) (fun k => [(7, .r (slP (rng ps lo hi))), (8, .i (flsTo (rng ps lo hi) k : Int)), (9, .i ((k + 1 : Nat) : Int))]) (fun _ => []) (fun _ => 0)
      (fun k => k ≤ (rng ps lo hi).length - 1) (fun k => (rng ps lo hi).length - k) 0 (Nat.zero_le _) (le_mk [] rfl rfl rfl rfl ⟨rfl, rfl, rfl, trivial⟩ trivial) ?_
    intro k hk
    have hfl := flsTo_le (ps := rng ps lo hi) (n := k)
    rcases Nat.lt_or_ge (k + 1) (rng ps lo hi).length with hlt | hge
    · have hc : decide (((k + 1 : Nat) : Int) < ((ptRs (rng ps lo hi)).length : Int)) = true := decide_eq_true (by omega)
      obtain ⟨p, hp⟩ : ∃ p, (rng ps lo hi)[k + 1]? = some p := ⟨_, List.getElem?_eq_getElem hlt⟩
      obtain ⟨q, hq⟩ : ∃ q, (rng ps lo hi)[k]? = some q := ⟨_, List.getElem?_eq_getElem (by omega)⟩
      have hpr := ptRs_at hp
      have hqr := ptRs_at hq
      have hs := flsTo_succ (ps := rng ps lo hi) (n := k)
      rw [vAt_some hp, vAt_some hq] at hs
      by_cases h : p.2 < q.2
      · have hd : decide (p.2 < q.2) = true := decide_eq_true h
        rw [if_pos h] at hs
        repeat' (first | (refine is_al ?_; (first | (refine is_move ?_; (first | refine al_v (opx_move (.raw _)) ⟨rfl, trivial⟩ trivial rfl ?_ | refine al_v (opx_move (.sl _ _)) ⟨rfl, trivial⟩ trivial rfl ?_)) | (refine is_bin ?_; (first | refine al_v opx_lss ⟨rfl, rfl, trivial⟩ trivial rfl ?_ | refine al_v (opx_add (by unfold InR; omega)) ⟨rfl, rfl, trivial⟩ trivial rfl ?_)) | (refine is_assign ?_; refine al_v (opx_assign (.raw _)) ⟨rfl, trivial⟩ trivial rfl ?_) | (refine is_bi ?_; refine al_v opx_len_sl ⟨rfl, trivial⟩ trivial rfl ?_) | refine al_nil ?_)) | (refine is_ad ?_; (first | (refine isd_move ?_; (first | refine ad_v (opx_move (.raw _)) ⟨rfl, trivial⟩ trivial rfl ?_ | refine ad_v (opx_move (.sl _ _)) ⟨rfl, trivial⟩ trivial rfl ?_)) | (refine isd_bin ?_; (first | refine ad_v opx_lss ⟨rfl, rfl, trivial⟩ trivial rfl ?_ | refine ad_v (opx_sub (by unfold InR; omega)) ⟨rfl, rfl, trivial⟩ trivial rfl ?_)) | (refine isd_load ?_; refine ad_v opx_ld_imm ⟨rfl, trivial⟩ trivial rfl ?_) | (refine isd_fa ?_; refine ad_v opx_fa_imm1 ⟨rfl, trivial⟩ trivial rfl ?_) | (refine isd_ia ?_; (first | refine ad_v (opx_ia_sl2 hpr (by omega)) ⟨rfl, rfl, trivial⟩ trivial rfl ?_ | refine ad_v (opx_ia_sl2 hqr (by omega)) ⟨rfl, rfl, trivial⟩ trivial rfl ?_)) | refine ad_nil (by kernel_rfl) ?_)) | (refine is_aw ?_; (first | refine aw_seq ?_ | refine aw_region ?_ | refine aw_skip ?_ | refine aw_block ?_ | (refine is_cond ?_; refine aw_cond_t rfl (by assumption) ?_) | refine aw_draw mixed ?_)) | refine thn_n ?_)
        exact ⟨k + 1, by omega, by omega, le_mk [] rfl rfl rfl rfl ⟨rfl, by rw [hs]; rfl, rfl, trivial⟩ trivial⟩
      · have hd : decide (p.2 < q.2) = false := decide_eq_false h
        rw [if_neg h] at hs
        repeat' (first | (refine is_al ?_; (first | (refine is_move ?_; (first | refine al_v (opx_move (.raw _)) ⟨rfl, trivial⟩ trivial rfl ?_ | refine al_v (opx_move (.sl _ _)) ⟨rfl, trivial⟩ trivial rfl ?_)) | (refine is_bin ?_; (first | refine al_v opx_lss ⟨rfl, rfl, trivial⟩ trivial rfl ?_ | refine al_v (opx_add (by unfold InR; omega)) ⟨rfl, rfl, trivial⟩ trivial rfl ?_)) | (refine is_assign ?_; refine al_v (opx_assign (.raw _)) ⟨rfl, trivial⟩ trivial rfl ?_) | (refine is_bi ?_; refine al_v opx_len_sl ⟨rfl, trivial⟩ trivial rfl ?_) | refine al_nil ?_)) | (refine is_ad ?_; (first | (refine isd_move ?_; (first | refine ad_v (opx_move (.raw _)) ⟨rfl, trivial⟩ trivial rfl ?_ | refine ad_v (opx_move (.sl _ _)) ⟨rfl, trivial⟩ trivial rfl ?_)) | (refine isd_bin ?_; (first | refine ad_v opx_lss ⟨rfl, rfl, trivial⟩ trivial rfl ?_ | refine ad_v (opx_sub (by unfold InR; omega)) ⟨rfl, rfl, trivial⟩ trivial rfl ?_)) | (refine isd_load ?_; refine ad_v opx_ld_imm ⟨rfl, trivial⟩ trivial rfl ?_) | (refine isd_fa ?_; refine ad_v opx_fa_imm1 ⟨rfl, trivial⟩ trivial rfl ?_) | (refine isd_ia ?_; (first | refine ad_v (opx_ia_sl2 hpr (by omega)) ⟨rfl, rfl, trivial⟩ trivial rfl ?_ | refine ad_v (opx_ia_sl2 hqr (by omega)) ⟨rfl, rfl, trivial⟩ trivial rfl ?_)) | refine ad_nil (by kernel_rfl) ?_)) | (refine is_aw ?_; (first | refine aw_seq ?_ | refine aw_region ?_ | refine aw_skip ?_ | refine aw_block ?_ | (refine is_cond ?_; (first | refine aw_cond_t rfl (by assumption) ?_ | refine aw_cond_f rfl (by assumption) ?_)) | refine aw_draw mixed ?_)) | refine thn_n ?_)
        exact ⟨k + 1, by omega, by omega, le_mk [] rfl rfl rfl rfl ⟨rfl, by rw [hs]; rfl, rfl, trivial⟩ trivial⟩
    · have hc : decide (((k + 1 : Nat) : Int) < ((ptRs (rng ps lo hi)).length : Int)) = false := decide_eq_false (by omega)
      repeat' (first | (refine is_al ?_; (first | (refine is_move ?_; (first | refine al_v (opx_move (.raw _)) ⟨rfl, trivial⟩ trivial rfl ?_ | refine al_v (opx_move (.sl _ _)) ⟨rfl, trivial⟩ trivial rfl ?_)) | (refine is_bin ?_; refine al_v opx_lss ⟨rfl, rfl, trivial⟩ trivial rfl ?_) | (refine is_assign ?_; refine al_v (opx_assign (.raw _)) ⟨rfl, trivial⟩ trivial rfl ?_) | (refine is_bi ?_; refine al_v opx_len_sl ⟨rfl, trivial⟩ trivial rfl ?_) | refine al_nil ?_)) | (refine is_aw ?_; (first | refine aw_seq ?_ | refine aw_region ?_ | refine aw_ret ?_ | refine aw_exit ?_ | (refine is_cond ?_; refine aw_cond_f rfl (by assumption) ?_))))
      exact ret_raw trivial rfl ⟨by rw [resI, if_pos hv, falls, show k = (rng ps lo hi).length - 1 by omega], rfl⟩
  · have hf : vrB ps lo hi = false := by simpa using hv
    have hn : (!vrB ps lo hi) = true := by rw [hf]; rfl
    repeat' (first | (refine is_al ?_; (first | (refine is_move ?_; (first | refine al_v (opx_move (.raw _)) ⟨rfl, trivial⟩ trivial rfl ?_ | refine al_v (opx_move (.sl _ _)) ⟨rfl, trivial⟩ trivial rfl ?_)) | (refine is_assign ?_; refine al_v (opx_assign (.raw _)) ⟨rfl, trivial⟩ trivial rfl ?_) | (refine is_call ?_; refine al_callv2 (by (repeat (first | exact .nil | refine .one rfl rfl ?_ | refine .froz rfl rfl ?_ | refine .row rfl rfl ?_ | refine .rnil rfl ?_ | refine .agg rfl (by (repeat (first | exact .nil | refine .cons (.same rfl) ?_ | refine .cons (.froz rfl) ?_ | refine .cons (.rnil) ?_ | refine .cons (.row rfl rfl) ?_)); (first | done | fail)) ?_)); (first | done | fail)) rfl (c_validRange _ _ _) rfl ?_) | refine al_v opx_not ⟨rfl, trivial⟩ trivial rfl ?_ | refine al_nil ?_)) | (refine is_aw ?_; (first | refine aw_seq ?_ | refine aw_region ?_ | refine aw_ret ?_ | (refine is_cond ?_; refine aw_cond_t rfl (by assumption) ?_))) | refine thn_r ?_)
    exact ret_raw trivial rfl ⟨by rw [resI, if_neg hv], rfl⟩

theorem c_sValidRange (lo hi : Int) : Con Try.prog 78 [rI lo, rI hi] [] (fun rs all => rs = [rB (irB lo && irB hi)] ∧ all = []) := by
  refine con_of_aw (vars := [.tmp 4]) [(0, .r (rI lo)), (1, .r (rI hi))] [] 0 Try.func78 (by kernel_rfl) rfl Try.ntmps78 rfl (by decide) rfl rfl rfl rfl rfl ?_
  intro B M w0 ρ0 Z0
  have e1 : decide (-2000 ≤ lo ∧ lo ≤ 2000) = irB lo := rfl
  have e2 : decide (-2000 ≤ hi ∧ hi ≤ 2000) = irB hi := rfl
  cases h1 : irB lo
  · rw [h1] at e1
    repeat' (first | (refine is_al ?_; (first | (refine is_gd ?_; refine al_off rfl rfl rfl (by assumption) rfl ?_) | (refine is_move ?_; refine al_v (opx_move (.raw _)) ⟨rfl, trivial⟩ trivial rfl ?_) | (refine is_assign ?_; refine al_v (opx_assign (.raw _)) ⟨rfl, trivial⟩ trivial rfl ?_) | (refine is_pick ?_; refine al_v (opx_pick_f (.raw _) (by assumption)) ⟨rfl, rfl, trivial⟩ trivial rfl ?_) | (refine is_call ?_; refine al_callv2 (by (repeat (first | exact .nil | refine .one rfl rfl ?_ | refine .froz rfl rfl ?_ | refine .row rfl rfl ?_ | refine .rnil rfl ?_ | refine .agg rfl (by (repeat (first | exact .nil | refine .cons (.same rfl) ?_ | refine .cons (.froz rfl) ?_ | refine .cons (.rnil) ?_ | refine .cons (.row rfl rfl) ?_)); (first | done | fail)) ?_)); (first | done | fail)) rfl (c_inRange _ _ _) rfl ?_) | refine al_nil ?_)) | (refine is_aw ?_; (first | refine aw_seq ?_ | refine aw_region ?_ | refine aw_ret ?_)))
    exact ret_raw trivial rfl ⟨congrArg (fun b => [rB b]) (rfl), rfl⟩
  · rw [h1] at e1
    repeat' (first | (refine is_al ?_; (first | (refine is_gd ?_; refine al_on rfl rfl rfl (by assumption) ?_) | (refine is_move ?_; refine al_v (opx_move (.raw _)) ⟨rfl, trivial⟩ trivial rfl ?_) | (refine is_assign ?_; refine al_v (opx_assign (.raw _)) ⟨rfl, trivial⟩ trivial rfl ?_) | (refine is_pick ?_; refine al_v (opx_pick_t (.raw _) (by assumption)) ⟨rfl, rfl, trivial⟩ trivial rfl ?_) | (refine is_call ?_; refine al_callv2 (by (repeat (first | exact .nil | refine .one rfl rfl ?_ | refine .froz rfl rfl ?_ | refine .row rfl rfl ?_ | refine .rnil rfl ?_ | refine .agg rfl (by (repeat (first | exact .nil | refine .cons (.same rfl) ?_ | refine .cons (.froz rfl) ?_ | refine .cons (.rnil) ?_ | refine .cons (.row rfl rfl) ?_)); (first | done | fail)) ?_)); (first | done | fail)) rfl (c_inRange _ _ _) rfl ?_) | refine al_nil ?_)) | (refine is_aw ?_; (first | refine aw_seq ?_ | refine aw_region ?_ | refine aw_ret ?_)))
    exact ret_raw trivial rfl ⟨congrArg (fun b => [rB b]) (e2), rfl⟩
theorem c_askable (ps : List Pt) (lo hi : Int) (hL : ps.length < 4611686018427387904) : Con Try.prog 58 [slP ps, rI lo, rI hi] [] (fun rs all => rs = [rB (vrB ps lo hi)] ∧ all = []) := by
  refine con_of_aw (vars := [.tmp 6]) [(0, .r (slP ps)), (1, .r (rI lo)), (2, .r (rI hi))] [] 0 Try.func58 (by kernel_rfl) rfl Try.ntmps58 rfl (by decide) rfl rfl rfl rfl rfl ?_
  intro B M w0 ρ0 Z0
  cases h1 : vsB ps
  · repeat' (first | (refine is_al ?_; (first | (refine is_gd ?_; refine al_off rfl rfl rfl (by assumption) rfl ?_) | (refine is_move ?_; (first | refine al_v (opx_move (.raw _)) ⟨rfl, trivial⟩ trivial rfl ?_ | refine al_v (opx_move (.sl _ _)) ⟨rfl, trivial⟩ trivial rfl ?_)) | (refine is_assign ?_; refine al_v (opx_assign (.raw _)) ⟨rfl, trivial⟩ trivial rfl ?_) | (refine is_pick ?_; refine al_v (opx_pick_f (.raw _) (by assumption)) ⟨rfl, rfl, trivial⟩ trivial rfl ?_) | (refine is_call ?_; refine al_callv2 (by (repeat (first | exact .nil | refine .one rfl rfl ?_ | refine .froz rfl rfl ?_ | refine .row rfl rfl ?_ | refine .rnil rfl ?_ | refine .agg rfl (by (repeat (first | exact .nil | refine .cons (.same rfl) ?_ | refine .cons (.froz rfl) ?_ | refine .cons (.rnil) ?_ | refine .cons (.row rfl rfl) ?_)); (first | done | fail)) ?_)); (first | done | fail)) rfl (c_sValidSeries _ hL) rfl ?_) | refine al_nil ?_)) | (refine is_aw ?_; (first | refine aw_seq ?_ | refine aw_region ?_ | refine aw_ret ?_)))
    exact ret_raw trivial rfl ⟨congrArg (fun b => [rB b]) (by rw [vrB, h1]; rfl), rfl⟩
  · repeat' (first | (refine is_al ?_; (first | (refine is_gd ?_; refine al_on rfl rfl rfl (by assumption) ?_) | (refine is_move ?_; (first | refine al_v (opx_move (.raw _)) ⟨rfl, trivial⟩ trivial rfl ?_ | refine al_v (opx_move (.sl _ _)) ⟨rfl, trivial⟩ trivial rfl ?_)) | (refine is_assign ?_; refine al_v (opx_assign (.raw _)) ⟨rfl, trivial⟩ trivial rfl ?_) | (refine is_pick ?_; refine al_v (opx_pick_t (.raw _) (by assumption)) ⟨rfl, rfl, trivial⟩ trivial rfl ?_) | (refine is_call ?_; (first | refine al_callv2 (by (repeat (first | exact .nil | refine .one rfl rfl ?_ | refine .froz rfl rfl ?_ | refine .row rfl rfl ?_ | refine .rnil rfl ?_ | refine .agg rfl (by (repeat (first | exact .nil | refine .cons (.same rfl) ?_ | refine .cons (.froz rfl) ?_ | refine .cons (.rnil) ?_ | refine .cons (.row rfl rfl) ?_)); (first | done | fail)) ?_)); (first | done | fail)) rfl (c_sValidSeries _ hL) rfl ?_ | refine al_callv2 (by (repeat (first | exact .nil | refine .one rfl rfl ?_ | refine .froz rfl rfl ?_ | refine .row rfl rfl ?_ | refine .rnil rfl ?_ | refine .agg rfl (by (repeat (first | exact .nil | refine .cons (.same rfl) ?_ | refine .cons (.froz rfl) ?_ | refine .cons (.rnil) ?_ | refine .cons (.row rfl rfl) ?_)); (first | done | fail)) ?_)); (first | done | fail)) rfl (c_sValidRange _ _) rfl ?_)) | refine al_nil ?_)) | (refine is_aw ?_; (first | refine aw_seq ?_ | refine aw_region ?_ | refine aw_ret ?_)))
    exact ret_raw trivial rfl ⟨congrArg (fun b => [rB b]) (by rw [vrB, h1]; rfl), rfl⟩
theorem rng_take {ps : List Pt} {lo hi : Int} {k : Nat} {p : Pt} (h : ps[k]? = some p) : rng (ps.take (k + 1)) lo hi = rng (ps.take k) lo hi ++ if lo ≤ p.1 ∧ p.1 ≤ hi - 1 then [p] else [] := by
  rw [List.take_add_one, h, rng, rng, List.filter_append]
  congr 1
  by_cases h1 : lo ≤ p.1 ∧ p.1 ≤ hi - 1
  · rw [if_pos h1]; simp; omega
  · rw [if_neg h1]; simp; omega
theorem c_part (ps : List Pt) (lo hi : Int) (hL : ps.length ≤ 1000000) (hh : -2000 ≤ hi ∧ hi ≤ 2000) : Con Try.prog 59 [slP ps, rI lo, rI hi] [] (fun rs all => rs = [.one (.own 0)] ∧ all = [.row 2 39 (ptRs (rng ps lo hi))]) := by
  have hlen := ptRs_len (ps := ps)
  refine con_of_aw (vars := [.tmp 6]) [(0, .r (slP ps)), (1, .r (rI lo)), (2, .r (rI hi))] [] 0 Try.func59 (by kernel_rfl) rfl Try.ntmps59 rfl (by decide) rfl rfl rfl rfl rfl ?_
  intro B M w0 ρ0 Z0
  repeat' (first | (refine is_al ?_; (first | (refine is_assign ?_; (first | refine al_v (opx_assign (.raw _)) ⟨rfl, trivial⟩ trivial rfl ?_ | refine al_v (opx_assign (.own _)) ⟨rfl, trivial⟩ trivial rfl ?_)) | (refine is_bs ?_; refine al_n opx_lit0 trivial trivial rfl ?_) | refine al_nil ?_)) | (refine is_aw ?_; (first | refine aw_seq ?_ | refine aw_region ?_ | refine aw_block ?_)))
  refine aw_loop (γ := Nat) (fun k => [(0, .r (slP ps)), (1, .r (rI lo)), (2, .r (rI hi)), (7, .own 0), (8, .i (k : Int))]) (fun k => [(0, .row 2 39 (ptRs (rng (ps.take k) lo hi)))]) (fun _ => 1)
    (fun k => k ≤ ps.length) (fun k => ps.length - k) 0 (Nat.zero_le _) (le_mk [0] rfl rfl rfl rfl ⟨rfl, rfl, rfl, rfl, rfl, trivial⟩ ⟨rfl, trivial⟩) ?_
  intro k hk
  have hrl : (rng (ps.take k) lo hi).length ≤ ps.length := Nat.le_trans (List.length_filter_le _ _) (by simp; omega)
  rcases Nat.lt_or_ge k ps.length with hlt | hge
  · have hc : decide ((k : Int) < ((ptRs ps).length : Int)) = true := decide_eq_true (by omega)
    obtain ⟨p, hp⟩ : ∃ p, ps[k]? = some p := ⟨_, List.getElem?_eq_getElem hlt⟩
    have hpr := ptRs_at hp
    have hs := rng_take (lo := lo) (hi := hi) hp
    by_cases h : lo ≤ p.1 ∧ p.1 ≤ hi - 1
    · have hd : decide (lo ≤ p.1 ∧ p.1 ≤ hi - 1) = true := decide_eq_true h
      rw [if_pos h] at hs
      repeat' (first | (refine is_al ?_; (first | (refine is_move ?_; (first | refine al_v (opx_move (.raw _)) ⟨rfl, trivial⟩ trivial rfl ?_ | refine al_v (opx_move (.sl _ _)) ⟨rfl, trivial⟩ trivial rfl ?_ | refine al_v (opx_move (.own _)) ⟨rfl, trivial⟩ trivial rfl ?_)) | (refine is_bin ?_; (first | refine al_v opx_lss ⟨rfl, rfl, trivial⟩ trivial rfl ?_ | refine al_v (opx_add (by unfold InR; omega)) ⟨rfl, rfl, trivial⟩ trivial rfl ?_ | refine al_v (opx_sub (by unfold InR; omega)) ⟨rfl, rfl, trivial⟩ trivial rfl ?_)) | (refine is_load ?_; (first | refine al_v opx_ld_imm ⟨rfl, trivial⟩ trivial rfl ?_ | refine al_v opx_ld2_imm ⟨rfl, trivial⟩ trivial rfl ?_)) | (refine is_fa ?_; refine al_v opx_fa_imm0 ⟨rfl, trivial⟩ trivial rfl ?_) | (refine is_assign ?_; (first | refine al_v (opx_assign (.raw _)) ⟨rfl, trivial⟩ trivial rfl ?_ | refine al_v (opx_assign (.own _)) ⟨rfl, trivial⟩ trivial rfl ?_)) | (refine is_bi ?_; refine al_v opx_len_sl ⟨rfl, trivial⟩ trivial rfl ?_) | (refine is_ia ?_; refine al_v (opx_ia_sl2 hpr (by omega)) ⟨rfl, rfl, trivial⟩ trivial rfl ?_) | (refine is_call ?_; refine al_callv2 (by (repeat (first | exact .nil | refine .one rfl rfl ?_ | refine .froz rfl rfl ?_ | refine .row rfl rfl ?_ | refine .rnil rfl ?_ | refine .agg rfl (by (repeat (first | exact .nil | refine .cons (.same rfl) ?_ | refine .cons (.froz rfl) ?_ | refine .cons (.rnil) ?_ | refine .cons (.row rfl rfl) ?_)); (first | done | fail)) ?_)); (first | done | fail)) rfl (c_inRange _ _ _) rfl ?_) | (refine is_bs ?_; refine al_pushP ⟨rfl, trivial⟩ rfl rfl rfl rfl rfl (by omega) ?_) | refine al_nil ?_)) | (refine is_aw ?_; (first | refine aw_seq ?_ | refine aw_region ?_ | refine aw_skip ?_ | refine aw_block ?_ | (refine is_cond ?_; refine aw_cond_t rfl (by assumption) ?_))) | refine thn_n ?_)
      exact ⟨k + 1, hlt, by omega, le_mk [2] rfl rfl rfl rfl ⟨rfl, rfl, rfl, rfl, rfl, trivial⟩ ⟨by rw [hs]; rfl, trivial⟩⟩
    · have hd : decide (lo ≤ p.1 ∧ p.1 ≤ hi - 1) = false := decide_eq_false h
      rw [if_neg h, List.append_nil] at hs
      repeat' (first | (refine is_al ?_; (first | (refine is_move ?_; (first | refine al_v (opx_move (.raw _)) ⟨rfl, trivial⟩ trivial rfl ?_ | refine al_v (opx_move (.sl _ _)) ⟨rfl, trivial⟩ trivial rfl ?_)) | (refine is_bin ?_; (first | refine al_v opx_lss ⟨rfl, rfl, trivial⟩ trivial rfl ?_ | refine al_v (opx_add (by unfold InR; omega)) ⟨rfl, rfl, trivial⟩ trivial rfl ?_ | refine al_v (opx_sub (by unfold InR; omega)) ⟨rfl, rfl, trivial⟩ trivial rfl ?_)) | (refine is_load ?_; refine al_v opx_ld_imm ⟨rfl, trivial⟩ trivial rfl ?_) | (refine is_fa ?_; refine al_v opx_fa_imm0 ⟨rfl, trivial⟩ trivial rfl ?_) | (refine is_assign ?_; refine al_v (opx_assign (.raw _)) ⟨rfl, trivial⟩ trivial rfl ?_) | (refine is_bi ?_; refine al_v opx_len_sl ⟨rfl, trivial⟩ trivial rfl ?_) | (refine is_ia ?_; refine al_v (opx_ia_sl2 hpr (by omega)) ⟨rfl, rfl, trivial⟩ trivial rfl ?_) | (refine is_call ?_; refine al_callv2 (by (repeat (first | exact .nil | refine .one rfl rfl ?_ | refine .froz rfl rfl ?_ | refine .row rfl rfl ?_ | refine .rnil rfl ?_ | refine .agg rfl (by (repeat (first | exact .nil | refine .cons (.same rfl) ?_ | refine .cons (.froz rfl) ?_ | refine .cons (.rnil) ?_ | refine .cons (.row rfl rfl) ?_)); (first | done | fail)) ?_)); (first | done | fail)) rfl (c_inRange _ _ _) rfl ?_) | refine al_nil ?_)) | (refine is_aw ?_; (first | refine aw_seq ?_ | refine aw_region ?_ | refine aw_skip ?_ | refine aw_block ?_ | (refine is_cond ?_; (first | refine aw_cond_t rfl (by assumption) ?_ | refine aw_cond_f rfl (by assumption) ?_)))) | refine thn_n ?_)
      exact ⟨k + 1, hlt, by omega, le_mk [0] rfl rfl rfl rfl ⟨rfl, rfl, rfl, rfl, rfl, trivial⟩ ⟨by rw [hs]; rfl, trivial⟩⟩
  · have hc : decide ((k : Int) < ((ptRs ps).length : Int)) = false := decide_eq_false (by omega)
    rw [List.take_of_length_le hge] at hrl ⊢
    repeat' (first | (refine is_al ?_; (first | (refine is_move ?_; (first | refine al_v (opx_move (.raw _)) ⟨rfl, trivial⟩ trivial rfl ?_ | refine al_v (opx_move (.sl _ _)) ⟨rfl, trivial⟩ trivial rfl ?_ | refine al_v (opx_move (.own _)) ⟨rfl, trivial⟩ trivial rfl ?_)) | (refine is_bin ?_; refine al_v opx_lss ⟨rfl, rfl, trivial⟩ trivial rfl ?_) | (refine is_assign ?_; refine al_v (opx_assign (.own _)) ⟨rfl, trivial⟩ trivial rfl ?_) | (refine is_bi ?_; refine al_v opx_len_sl ⟨rfl, trivial⟩ trivial rfl ?_) | refine al_nil ?_)) | (refine is_aw ?_; (first | refine aw_seq ?_ | refine aw_region ?_ | refine aw_ret ?_ | refine aw_exit ?_ | (refine is_cond ?_; refine aw_cond_f rfl (by assumption) ?_))))
    exact ret_row trivial rfl rfl ⟨rfl, rfl⟩
theorem c_part' (ps : List Pt) (lo hi : Int) (hL : ps.length ≤ 1000000) (hh : -2000 ≤ hi ∧ hi ≤ 2000) : Con Try.prog 59 [slP ps, rI lo, rI hi] [] (fun rs all => rs = [slP (rng ps lo hi)] ∧ all = []) :=
  (c_part ps lo hi hL hh).froz fun rs all ⟨h1, h2⟩ => by subst h1 h2; exact ⟨⟨rfl, rfl⟩, rfl⟩
theorem c_toInt2 (b : Bool) : Con Try.prog 60 [rB b] [] (fun rs all => rs = [rI (if b = true then 1 else 0)] ∧ all = []) := by
  refine con_of_aw (vars := [.tmp 2]) [(0, .r (rB b))] [] 0 Try.func60 (by kernel_rfl) rfl Try.ntmps60 rfl (by decide) rfl rfl rfl rfl rfl ?_
  intro B M w0 ρ0 Z0
  cases b
  · repeat' (first | (refine is_al ?_; (first | (refine is_move ?_; refine al_v (opx_move (.raw _)) ⟨rfl, trivial⟩ trivial rfl ?_) | (refine is_assign ?_; refine al_v (opx_assign (.raw _)) ⟨rfl, trivial⟩ trivial rfl ?_) | refine al_nil ?_)) | (refine is_aw ?_; (first | refine aw_seq ?_ | refine aw_region ?_ | refine aw_skip ?_ | refine aw_ret ?_ | (refine is_cond ?_; refine aw_cond_f rfl rfl ?_))))
    exact ret_raw trivial rfl ⟨rfl, rfl⟩
  · repeat' (first | (refine is_al ?_; (first | (refine is_move ?_; refine al_v (opx_move (.raw _)) ⟨rfl, trivial⟩ trivial rfl ?_) | (refine is_assign ?_; refine al_v (opx_assign (.raw _)) ⟨rfl, trivial⟩ trivial rfl ?_) | refine al_nil ?_)) | (refine is_aw ?_; (first | refine aw_seq ?_ | refine aw_region ?_ | refine aw_ret ?_ | (refine is_cond ?_; refine aw_cond_t rfl rfl ?_))) | refine thn_r ?_)
    exact ret_raw trivial rfl ⟨rfl, rfl⟩
theorem c_sResets (ps : List Pt) (lo hi : Int) (hL : ps.length ≤ 1000000) : Con Try.prog 33 [slP ps, rI lo, rI hi] [] (fun rs all => rs = [rI (resI ps lo hi)] ∧ all = []) := by
  refine con_of_aw (vars := [.tmp 6]) [(0, .r (slP ps)), (1, .r (rI lo)), (2, .r (rI hi))] [] 0 Try.func33 (by kernel_rfl) rfl Try.ntmps33 rfl (by decide) rfl rfl rfl rfl rfl ?_
  intro B M w0 ρ0 Z0
  by_cases hv : vrB ps lo hi = true
  · have hn : (!vrB ps lo hi) = false := by rw [hv]; rfl
    have hvs : VS ps := by rw [vrB, Bool.and_eq_true] at hv; exact vsB_iff.1 hv.1
    have hir : -2000 ≤ hi ∧ hi ≤ 2000 := by rw [vrB, Bool.and_eq_true, Bool.and_eq_true] at hv; simpa [irB] using hv.2.2
    have hl := (VS_rng (lo := lo) (hi := hi) hvs).1
    have hlr := ptRs_len (ps := rng ps lo hi)
    repeat' (first | (refine is_al ?_; (first | (refine is_move ?_; (first | refine al_v (opx_move (.raw _)) ⟨rfl, trivial⟩ trivial rfl ?_ | refine al_v (opx_move (.sl _ _)) ⟨rfl, trivial⟩ trivial rfl ?_)) | (refine is_assign ?_; (first | refine al_v (opx_assign (.raw _)) ⟨rfl, trivial⟩ trivial rfl ?_ | refine al_v (opx_assign (.sl _ _)) ⟨rfl, trivial⟩ trivial rfl ?_)) | (refine is_call ?_; (first | refine al_callv2 (by (repeat (first | exact .nil | refine .one rfl rfl ?_ | refine .froz rfl rfl ?_ | refine .row rfl rfl ?_ | refine .rnil rfl ?_ | refine .agg rfl (by (repeat (first | exact .nil | refine .cons (.same rfl) ?_ | refine .cons (.froz rfl) ?_ | refine .cons (.rnil) ?_ | refine .cons (.row rfl rfl) ?_)); (first | done | fail)) ?_)); (first | done | fail)) rfl (c_askable _ _ _ (by omega)) rfl ?_ | refine al_callF (by (repeat (first | exact .nil | refine .one rfl rfl ?_ | refine .froz rfl rfl ?_ | refine .rnil rfl ?_ | refine .agg rfl (by (repeat (first | exact .nil | refine .cons (.same rfl) ?_ | refine .cons (.froz rfl) ?_ | refine .cons (.rnil) ?_)); (first | done | fail)) ?_)); (first | done | fail)) rfl (c_part' _ _ _ hL hir) rfl ?_)) | refine al_v opx_not ⟨rfl, trivial⟩ trivial rfl ?_ | refine al_nil ?_)) | (refine is_aw ?_; (first | refine aw_seq ?_ | refine aw_region ?_ | refine aw_skip ?_ | refine aw_block ?_ | (refine is_cond ?_; refine aw_cond_f rfl (by assumption) ?_))))
    refine aw_loop (γ := Nat) (fun k => [(7, .i (flsTo (rng ps lo hi) k : Int)), (8, .r (slP (rng ps lo hi))), (9, .i ((k + 1 : Nat) : Int))]) (fun _ => []) (fun _ => 0)
      (fun k => k ≤ (rng ps lo hi).length - 1) (fun k => (rng ps lo hi).length - k) 0 (Nat.zero_le _) (le_mk [] rfl rfl rfl rfl ⟨rfl, rfl, rfl, trivial⟩ trivial) ?_
    intro k hk
    have hfl := flsTo_le (ps := rng ps lo hi) (n := k)
    rcases Nat.lt_or_ge (k + 1) (rng ps lo hi).length with hlt | hge
    · have hc : decide (((k + 1 : Nat) : Int) < ((ptRs (rng ps lo hi)).length : Int)) = true := decide_eq_true (by omega)
      obtain ⟨p, hp⟩ : ∃ p, (rng ps lo hi)[k + 1]? = some p := ⟨_, List.getElem?_eq_getElem hlt⟩
      obtain ⟨q, hq⟩ : ∃ q, (rng ps lo hi)[k]? = some q := ⟨_, List.getElem?_eq_getElem (by omega)⟩
      have hpr := ptRs_at hp
      have hqr := ptRs_at hq
      have hs := flsTo_succ (ps := rng ps lo hi) (n := k)
      rw [vAt_some hp, vAt_some hq] at hs
      have hi1 : (flsTo (rng ps lo hi) k : Int) + (if decide (p.2 < q.2) = true then 1 else 0) = (flsTo (rng ps lo hi) (k + 1) : Int) := by
        rw [hs]
        by_cases h : p.2 < q.2
        · rw [if_pos (decide_eq_true h), if_pos h]; omega
        · rw [if_neg (by simpa using h), if_neg h]; omega
      have hi2 : InR ((flsTo (rng ps lo hi) k : Int) + (if decide (p.2 < q.2) = true then 1 else 0)) := by
        have := flsTo_le (ps := rng ps lo hi) (n := k + 1)
        rw [hi1]; exact ⟨by omega, by omega⟩
      repeat' (first | (refine is_al ?_; (first | (refine is_move ?_; (first | refine al_v (opx_move (.raw _)) ⟨rfl, trivial⟩ trivial rfl ?_ | refine al_v (opx_move (.sl _ _)) ⟨rfl, trivial⟩ trivial rfl ?_)) | (refine is_bin ?_; (first | refine al_v opx_lss ⟨rfl, rfl, trivial⟩ trivial rfl ?_ | refine al_v (opx_add (by unfold InR; omega)) ⟨rfl, rfl, trivial⟩ trivial rfl ?_)) | (refine is_assign ?_; refine al_v (opx_assign (.raw _)) ⟨rfl, trivial⟩ trivial rfl ?_) | (refine is_bi ?_; refine al_v opx_len_sl ⟨rfl, trivial⟩ trivial rfl ?_) | refine al_nil ?_)) | (refine is_ad ?_; (first | (refine isd_move ?_; (first | refine ad_v (opx_move (.raw _)) ⟨rfl, trivial⟩ trivial rfl ?_ | refine ad_v (opx_move (.sl _ _)) ⟨rfl, trivial⟩ trivial rfl ?_)) | (refine isd_bin ?_; (first | refine ad_v opx_lss ⟨rfl, rfl, trivial⟩ trivial rfl ?_ | refine ad_v (opx_add (by unfold InR; omega)) ⟨rfl, rfl, trivial⟩ trivial rfl ?_ | refine ad_v (opx_sub (by unfold InR; omega)) ⟨rfl, rfl, trivial⟩ trivial rfl ?_)) | (refine isd_load ?_; refine ad_v opx_ld_imm ⟨rfl, trivial⟩ trivial rfl ?_) | (refine isd_fa ?_; refine ad_v opx_fa_imm1 ⟨rfl, trivial⟩ trivial rfl ?_) | (refine isd_assign ?_; refine ad_v (opx_assign (.raw _)) ⟨rfl, trivial⟩ trivial rfl ?_) | (refine isd_ia ?_; (first | refine ad_v (opx_ia_sl2 hpr (by omega)) ⟨rfl, rfl, trivial⟩ trivial rfl ?_ | refine ad_v (opx_ia_sl2 hqr (by omega)) ⟨rfl, rfl, trivial⟩ trivial rfl ?_)) | (refine isd_call ?_; refine ad_callv2 (by (repeat (first | exact .nil | refine .one rfl rfl ?_ | refine .froz rfl rfl ?_ | refine .row rfl rfl ?_ | refine .rnil rfl ?_ | refine .agg rfl (by (repeat (first | exact .nil | refine .cons (.same rfl) ?_ | refine .cons (.froz rfl) ?_ | refine .cons (.rnil) ?_ | refine .cons (.row rfl rfl) ?_)); (first | done | fail)) ?_)); (first | done | fail)) rfl (c_toInt2 _) rfl ?_) | refine ad_nil (by kernel_rfl) ?_)) | (refine is_aw ?_; (first | refine aw_seq ?_ | refine aw_region ?_ | refine aw_skip ?_ | refine aw_block ?_ | (refine is_cond ?_; refine aw_cond_t rfl (by assumption) ?_) | refine aw_draw mixed ?_)) | refine thn_n ?_)
      exact ⟨k + 1, by omega, by omega, le_mk [] rfl rfl rfl rfl ⟨by rw [← hi1]; rfl, rfl, rfl, trivial⟩ trivial⟩
    · have hc : decide (((k + 1 : Nat) : Int) < ((ptRs (rng ps lo hi)).length : Int)) = false := decide_eq_false (by omega)
      repeat' (first | (refine is_al ?_; (first | (refine is_move ?_; (first | refine al_v (opx_move (.raw _)) ⟨rfl, trivial⟩ trivial rfl ?_ | refine al_v (opx_move (.sl _ _)) ⟨rfl, trivial⟩ trivial rfl ?_)) | (refine is_bin ?_; refine al_v opx_lss ⟨rfl, rfl, trivial⟩ trivial rfl ?_) | (refine is_assign ?_; refine al_v (opx_assign (.raw _)) ⟨rfl, trivial⟩ trivial rfl ?_) | (refine is_bi ?_; refine al_v opx_len_sl ⟨rfl, trivial⟩ trivial rfl ?_) | refine al_nil ?_)) | (refine is_aw ?_; (first | refine aw_seq ?_ | refine aw_region ?_ | refine aw_ret ?_ | refine aw_exit ?_ | (refine is_cond ?_; refine aw_cond_f rfl (by assumption) ?_))))
      exact ret_raw trivial rfl ⟨by rw [resI, if_pos hv, falls, show k = (rng ps lo hi).length - 1 by omega], rfl⟩
  · have hf : vrB ps lo hi = false := by simpa using hv
    have hn : (!vrB ps lo hi) = true := by rw [hf]; rfl
    repeat' (first | (refine is_al ?_; (first | (refine is_move ?_; (first | refine al_v (opx_move (.raw _)) ⟨rfl, trivial⟩ trivial rfl ?_ | refine al_v (opx_move (.sl _ _)) ⟨rfl, trivial⟩ trivial rfl ?_)) | (refine is_assign ?_; refine al_v (opx_assign (.raw _)) ⟨rfl, trivial⟩ trivial rfl ?_) | (refine is_call ?_; refine al_callv2 (by (repeat (first | exact .nil | refine .one rfl rfl ?_ | refine .froz rfl rfl ?_ | refine .row rfl rfl ?_ | refine .rnil rfl ?_ | refine .agg rfl (by (repeat (first | exact .nil | refine .cons (.same rfl) ?_ | refine .cons (.froz rfl) ?_ | refine .cons (.rnil) ?_ | refine .cons (.row rfl rfl) ?_)); (first | done | fail)) ?_)); (first | done | fail)) rfl (c_askable _ _ _ (by omega)) rfl ?_) | refine al_v opx_not ⟨rfl, trivial⟩ trivial rfl ?_ | refine al_nil ?_)) | (refine is_aw ?_; (first | refine aw_seq ?_ | refine aw_region ?_ | refine aw_ret ?_ | (refine is_cond ?_; refine aw_cond_t rfl (by assumption) ?_))) | refine thn_r ?_)
    exact ret_raw trivial rfl ⟨by rw [resI, if_neg hv], rfl⟩

theorem c_counter (bs : List UInt8) (p : Int) (hb : bs.length ≤ 1048576) (hp : 0 ≤ p ∧ p ≤ 1099511610000) :
    Con Try.prog 77 [rdA] [rdO bs p] (RdR bs 2 39 (SerP p 300 17 fun _ => True)) := by
  refine con_of_aw (vars := [.tmp 2]) [(0, .ref 0 0)] [(0, rdO bs p)] 1 Try.func77 (by kernel_rfl) rfl Try.ntmps77 rfl (by decide) rfl rfl rfl rfl rfl ?_
  intro B M w0 ρ0 Z0
  repeat' (first | (refine is_al ?_; (first | (refine is_move ?_; refine al_v (opx_move (.ref _ _)) ⟨rfl, trivial⟩ trivial rfl ?_) | (refine is_assign ?_; (first | refine al_v (opx_assign (.raw _)) ⟨rfl, trivial⟩ trivial rfl ?_ | refine al_v (opx_assign (.own _)) ⟨rfl, trivial⟩ trivial rfl ?_)) | (refine is_call ?_; (refine al_rdr 0 rfl rfl (by (repeat (first | exact .nil | refine .one rfl rfl ?_ | refine .tag rfl ?_ | refine .froz rfl rfl ?_ | refine .rnil rfl ?_ | refine .agg rfl (by (repeat (first | exact .nil | refine .cons (.same rfl) ?_ | refine .cons (.froz rfl) ?_ | refine .cons (.rnil) ?_)); (first | done | fail)) ?_)); (first | done | fail)) rfl (c_anySeries _ _ hb (by omega)) ?_; rintro _ q1 ⟨ps0, rfl, h1, h2, h3, h4⟩)) | refine al_nil ?_)) | (refine is_aw ?_; (first | refine aw_seq ?_ | refine aw_region ?_ | refine aw_block ?_)))
  refine aw_loop (γ := List Pt × Int × Nat × Int) (fun g => [(0, .ref 0 0), (2, .raw (.slice none 0 0)), (3, .own 1), (4, .i g.2.1), (5, .i (g.2.2.1 : Int))]) (fun g => [(0, rdO bs g.2.2.2), (1, .row 2 39 (ptRs g.1))]) (fun _ => 2)
    (fun g => g.1.length ≤ 17 ∧ 0 ≤ g.2.1 ∧ g.2.1 ≤ 900 ∧ g.2.2.1 ≤ g.1.length ∧ p ≤ g.2.2.2 ∧ g.2.2.2 ≤ p + 210 + 4 * g.2.2.1) (fun g => g.1.length - g.2.2.1) (ps0, 0, 0, q1) (by dsimp only; omega) (le_mk [0, 1] rfl rfl rfl rfl ⟨rfl, rfl, rfl, rfl, rfl, trivial⟩ ⟨rfl, rfl, trivial⟩) ?_
  rintro ⟨ps, c, k, q⟩ ⟨h1, h2, h3, h4, h5, h6⟩
  dsimp only at h1 h2 h3 h4 h5 h6 ⊢
  have hlen := ptRs_len (ps := ps)
  rcases Nat.lt_or_ge k ps.length with hlt | hge
  · have hc : decide ((k : Int) < ((ptRs ps).length : Int)) = true := decide_eq_true (by omega)
    obtain ⟨x, hx⟩ : ∃ x, ps[k]? = some x := ⟨_, List.getElem?_eq_getElem hlt⟩
    have hxr := ptRs_at hx
    have hkl : k < (ptRs ps).length := by omega
    repeat' (first | (refine is_al ?_; (first | (refine is_gd ?_; (first | refine al_on rfl rfl rfl (by assumption) ?_ | refine al_off rfl rfl rfl (by assumption) rfl ?_ | (refine al_g rfl rfl rfl rfl ?_ ?_ <;> ((intro hgd; try exact absurd hgd (by decide)); (try (have hz := hgd; simp only [decide_eq_true_eq, decide_eq_false_iff_not, Bool.not_eq_true', Bool.not_eq_false', Bool.not_true, Bool.not_false, beq_iff_eq, Int.not_le, Int.not_lt] at hz)); (try (exfalso; omega)))))) | (refine is_move ?_; (first | refine al_v (opx_move (.raw _)) ⟨rfl, trivial⟩ trivial rfl ?_ | refine al_v (opx_move (.own _)) ⟨rfl, trivial⟩ trivial rfl ?_ | refine al_v (opx_move (.ref _ _)) ⟨rfl, trivial⟩ trivial rfl ?_)) | (refine is_bin ?_; (first | refine al_v opx_eql ⟨rfl, rfl, trivial⟩ trivial rfl ?_ | refine al_v opx_lss ⟨rfl, rfl, trivial⟩ trivial rfl ?_ | refine al_v opx_gtr ⟨rfl, rfl, trivial⟩ trivial rfl ?_ | refine al_v (opx_add (by unfold InR; omega)) ⟨rfl, rfl, trivial⟩ trivial rfl ?_)) | (refine is_fa ?_; refine al_v opx_fa_el ⟨rfl, trivial⟩ trivial rfl ?_) | (refine is_assign ?_; refine al_v (opx_assign (.raw _)) ⟨rfl, trivial⟩ trivial rfl ?_) | (refine is_pick ?_; (first | refine al_v (opx_pick_t (.raw _) (by assumption)) ⟨rfl, rfl, trivial⟩ trivial rfl ?_ | refine al_v (opx_pick_f (.raw _) (by assumption)) ⟨rfl, rfl, trivial⟩ trivial rfl ?_)) | (refine is_bi ?_; refine al_v opx_len_own ⟨rfl, trivial⟩ ⟨rfl, trivial⟩ rfl ?_) | (refine is_ia ?_; refine al_v (opx_ia_own2 hkl (by omega)) ⟨rfl, rfl, trivial⟩ ⟨rfl, trivial⟩ rfl ?_) | (refine is_call ?_; (refine al_rdv 0 rfl rfl (by (repeat (first | exact .nil | refine .one rfl rfl ?_ | refine .tag rfl ?_ | refine .froz rfl rfl ?_ | refine .rnil rfl ?_ | refine .agg rfl (by (repeat (first | exact .nil | refine .cons (.same rfl) ?_ | refine .cons (.froz rfl) ?_ | refine .cons (.rnil) ?_)); (first | done | fail)) ?_)); (first | done | fail)) rfl (c_pick _ _ _ hb (by omega) (by omega)) ?_; rintro r q2 ⟨rfl, ha1, ha2, ha3⟩)) | (refine is_st ?_; refine al_stP1 rfl rfl rfl (by assumption) ?_) | refine al_nil ?_)) | (refine is_aw ?_; (first | refine aw_seq ?_ | refine aw_region ?_ | refine aw_skip ?_ | refine aw_block ?_ | (refine is_cond ?_; (first | refine aw_cond_t rfl rfl ?_ | refine aw_cond_t rfl (by assumption) ?_ | (refine aw_cond rfl ?_ ?_ <;> ((intro hgd; try exact absurd hgd (by decide)); (try (have hz := hgd; simp only [decide_eq_true_eq, decide_eq_false_iff_not, Bool.not_eq_true', Bool.not_eq_false', Bool.not_true, Bool.not_false, beq_iff_eq, Int.not_le, Int.not_lt] at hz)); (try (exfalso; omega)))))))) | refine thn_n ?_)
    all_goals first
      | exact ⟨(_, _, k + 1, _), ⟨by simpa using h1, (by first | omega | (dsimp only; omega) | (simp only [List.length_append, List.length_cons, List.length_nil]; omega) | (simp; omega)), (by first | omega | (dsimp only; omega) | (simp only [List.length_append, List.length_cons, List.length_nil]; omega) | (simp; omega)), by simp; omega, (by first | omega | (dsimp only; omega) | (simp only [List.length_append, List.length_cons, List.length_nil]; omega) | (simp; omega)), (by first | omega | (dsimp only; omega) | (simp only [List.length_append, List.length_cons, List.length_nil]; omega) | (simp; omega))⟩, by simp; omega, le_mk [0, 1] rfl rfl rfl rfl ⟨rfl, rfl, rfl, rfl, rfl, trivial⟩ ⟨rfl, rfl, trivial⟩⟩
  · have hc : decide ((k : Int) < ((ptRs ps).length : Int)) = false := decide_eq_false (by omega)
    repeat' (first | (refine is_al ?_; (first | (refine is_move ?_; (first | refine al_v (opx_move (.raw _)) ⟨rfl, trivial⟩ trivial rfl ?_ | refine al_v (opx_move (.own _)) ⟨rfl, trivial⟩ trivial rfl ?_)) | (refine is_bin ?_; refine al_v opx_lss ⟨rfl, rfl, trivial⟩ trivial rfl ?_) | (refine is_assign ?_; refine al_v (opx_assign (.own _)) ⟨rfl, trivial⟩ trivial rfl ?_) | (refine is_bi ?_; refine al_v opx_len_own ⟨rfl, trivial⟩ ⟨rfl, trivial⟩ rfl ?_) | refine al_nil ?_)) | (refine is_aw ?_; (first | refine aw_seq ?_ | refine aw_region ?_ | refine aw_ret ?_ | refine aw_exit ?_ | (refine is_cond ?_; refine aw_cond_f rfl (by assumption) ?_))))
    exact retm_row trivial rfl rfl rfl rfl rfl ⟨_, _, rfl, rfl, ps, rfl, by omega, by omega, by omega, fun _ _ => trivial⟩
theorem c_drawRateOver (bs : List UInt8) (hb : bs.length ≤ 1048576) :
    Con Try.prog 57 [slB bs] [] (fun rs all => ∃ (ps : List Pt) (lo hi : Int), rs = [.one (.own 0), rI lo, rI hi] ∧ all = [.row 2 39 (ptRs ps)] ∧ ps.length ≤ 17) := by
  refine con_of_aw (vars := [.tmp 2, .tmp 3, .tmp 4]) [(0, .r (slB bs))] [] 0 Try.func57 (by kernel_rfl) rfl Try.ntmps57 rfl (by decide) rfl rfl rfl rfl rfl ?_
  intro B M w0 ρ0 Z0
  repeat' (first | (refine is_al ?_; (first | (refine is_move ?_; (first | refine al_v (opx_move (.sl _ _)) ⟨rfl, trivial⟩ trivial rfl ?_ | refine al_v (opx_move (.own _)) ⟨rfl, trivial⟩ trivial rfl ?_ | refine al_v (opx_move (.ref _ _)) ⟨rfl, trivial⟩ trivial rfl ?_)) | (refine is_assign ?_; (first | refine al_v (opx_assign (.raw _)) ⟨rfl, trivial⟩ trivial rfl ?_ | refine al_v (opx_assign (.own _)) ⟨rfl, trivial⟩ trivial rfl ?_ | refine al_v (opx_assign (.ref _ _)) ⟨rfl, trivial⟩ trivial rfl ?_)) | (refine is_call ?_; (first | (refine al_newrd (by (repeat (first | exact .nil | refine .one rfl rfl ?_ | refine .froz rfl rfl ?_ | refine .rnil rfl ?_ | refine .agg rfl (by (repeat (first | exact .nil | refine .cons (.same rfl) ?_ | refine .cons (.froz rfl) ?_ | refine .cons (.rnil) ?_)); (first | done | fail)) ?_)); (first | done | fail)) rfl (c_newReader bs hb) ?_; rintro bs hbs) | (refine al_rdr 0 rfl rfl (by (repeat (first | exact .nil | refine .one rfl rfl ?_ | refine .tag rfl ?_ | refine .froz rfl rfl ?_ | refine .rnil rfl ?_ | refine .agg rfl (by (repeat (first | exact .nil | refine .cons (.same rfl) ?_ | refine .cons (.froz rfl) ?_ | refine .cons (.rnil) ?_)); (first | done | fail)) ?_)); (first | done | fail)) rfl (c_counter _ _ hbs (by omega)) ?_; rintro _ q1 ⟨ps, rfl, h1, h2, h3, h4⟩) | (refine al_rdv 0 rfl rfl (by (repeat (first | exact .nil | refine .one rfl rfl ?_ | refine .tag rfl ?_ | refine .froz rfl rfl ?_ | refine .rnil rfl ?_ | refine .agg rfl (by (repeat (first | exact .nil | refine .cons (.same rfl) ?_ | refine .cons (.froz rfl) ?_ | refine .cons (.rnil) ?_)); (first | done | fail)) ?_)); (first | done | fail)) rfl (c_one _ _ _ hbs (by omega) (by simp)) ?_; rintro r3 q3 ⟨rfl, hr3⟩))) | refine al_nil ?_ | refine al_litI [0, 5, -10, 20, 2001] (by (repeat (first | exact .nil _ | refine .cons rfl ?_)); (first | done | fail)) rfl rfl rfl ?_ | refine al_litI [1001, 100, 50, 0] (by (repeat (first | exact .nil _ | refine .cons rfl ?_)); (first | done | fail)) rfl rfl rfl ?_)) | (refine is_ad ?_; (first | refine al_litI [0, 5, -10, 20, 2001] (by (repeat (first | exact .nil _ | refine .cons rfl ?_)); (first | done | fail)) rfl rfl rfl ?_ | refine al_litI [1001, 100, 50, 0] (by (repeat (first | exact .nil _ | refine .cons rfl ?_)); (first | done | fail)) rfl rfl rfl ?_)) | (refine is_aw ?_; (first | refine aw_seq ?_ | refine aw_region ?_ | refine aw_ret ?_)))
  exact retg_mk trivial [_, _, _] [_] [_] ⟨ps, _, _, rfl, rfl, h3⟩ (Nat.zero_le _) (by simp [nodupB]) rfl rfl rfl ⟨rfl, rfl, rfl, trivial⟩ ⟨rfl, trivial⟩
theorem c_drawRateOver' (bs : List UInt8) (hb : bs.length ≤ 1048576) :
    Con Try.prog 57 [slB bs] [] (fun rs all => ∃ g : List Pt × Int × Int, rs = [slP g.1, rI g.2.1, rI g.2.2] ∧ all = [] ∧ noTags rs = true ∧ g.1.length ≤ 17) :=
  (c_drawRateOver bs hb).froz fun rs all ⟨ps, lo, hi, h1, h2, h3⟩ => by
    subst h1 h2
    exact ⟨⟨(ps, lo, hi), rfl, rfl, rfl, h3⟩, rfl⟩
theorem c_drawResets (bs : List UInt8) (hb : bs.length ≤ 1048576) :
    Con Try.prog 31 [slB bs] [] (fun rs all => ∃ g : List Pt × Int × Int, rs = [slP g.1, rI g.2.1, rI g.2.2] ∧ all = [] ∧ noTags rs = true ∧ g.1.length ≤ 17) := by
  refine con_of_aw (vars := [.tmp 2, .tmp 3, .tmp 4]) [(0, .r (slB bs))] [] 0 Try.func31 (by kernel_rfl) rfl Try.ntmps31 rfl (by decide) rfl rfl rfl rfl rfl ?_
  intro B M w0 ρ0 Z0
  repeat' (first | (refine is_al ?_; (first | (refine is_move ?_; refine al_v (opx_move (.sl _ _)) ⟨rfl, trivial⟩ trivial rfl ?_) | (refine is_assign ?_; (first | refine al_v (opx_assign (.raw _)) ⟨rfl, trivial⟩ trivial rfl ?_ | refine al_v (opx_assign (.sl _ _)) ⟨rfl, trivial⟩ trivial rfl ?_)) | (refine is_call ?_; (refine al_callE (by (repeat (first | exact .nil | refine .one rfl rfl ?_ | refine .froz rfl rfl ?_ | refine .rnil rfl ?_ | refine .agg rfl (by (repeat (first | exact .nil | refine .cons (.same rfl) ?_ | refine .cons (.froz rfl) ?_ | refine .cons (.rnil) ?_)); (first | done | fail)) ?_)); (first | done | fail)) rfl (c_drawRateOver' _ hb) ?_; rintro ⟨ps, lo, hi⟩ h1; dsimp only at h1 ⊢)) | refine al_v (opx_extract _ rfl) ⟨rfl, trivial⟩ trivial rfl ?_ | refine al_nil ?_)) | (refine is_aw ?_; (first | refine aw_seq ?_ | refine aw_region ?_ | refine aw_ret ?_)))
  exact retg_mk trivial [slP ps, rI lo, rI hi] [] [] ⟨(ps, lo, hi), rfl, rfl, rfl, h1⟩ (Nat.le_refl _) rfl rfl rfl rfl ⟨rfl, rfl, rfl, trivial⟩ trivial

/-- The times of the first k points with the greatest value up to each. -/
def upTo (ps : List Pt) (k : Nat) : List Pt := (List.range k).map fun i => ((ps.getD i (0, 0)).1, mmost ps 16 i)
theorem upTo_succ {ps : List Pt} {k : Nat} {p : Pt} (h : ps[k]? = some p) : upTo ps k ++ [(p.1, mmost ps 16 k)] = upTo ps (k + 1) := by
  simp [upTo, List.range_succ, List.getD, h]
theorem upTo_len {ps : List Pt} {k : Nat} : (upTo ps k).length = k := by simp [upTo]
theorem upTo_up {ps : List Pt} (hl : ps.length ≤ 16) : (upTo ps ps.length).Pairwise fun a b => a.2 ≤ b.2 := by
  rw [upTo, List.pairwise_map]
  refine List.Pairwise.imp_of_mem (R := (· < ·)) ?_ List.pairwise_lt_range
  intro i j hi hj hij
  have hj := List.mem_range.1 hj
  obtain ⟨k, h1, h2, h3⟩ := mmost_in (ps := ps) (w := 16) (k := i) (by omega)
  rw [h3]
  exact mmost_ge (by omega) (by omega)
theorem upTo_VS {ps : List Pt} (h : VS ps) : VS (upTo ps ps.length) := by
  have hg : ∀ i, i < ps.length → ∃ p, p ∈ ps ∧ ps[i]? = some p := fun i hi => ⟨ps[i], List.getElem_mem hi, List.getElem?_eq_getElem hi⟩
  refine VS_iff.2 ⟨by rw [upTo_len]; exact h.1, ?_, ?_⟩
  · intro x hx
    obtain ⟨i, hi, rfl⟩ := List.mem_map.1 hx
    have hi := List.mem_range.1 hi
    obtain ⟨p, hp, he⟩ := hg i hi
    obtain ⟨k, h1, h2, h3⟩ := mmost_in (ps := ps) (w := 16) (k := i) (by omega)
    obtain ⟨q, hq, hqe⟩ := hg k (by omega)
    obtain ⟨a1, a2, a3, a4⟩ := h.ok p hp
    obtain ⟨b1, b2, b3, b4⟩ := h.ok q hq
    rw [h3, vAt_some hqe]
    simp only [List.getD, he, Option.getD_some]
    exact ⟨a1, a2, b3, b4⟩
  · have ha := h.asc
    show (upTo ps ps.length).Pairwise _
    rw [upTo, List.pairwise_map]
    refine List.Pairwise.imp_of_mem (R := (· < ·)) ?_ List.pairwise_lt_range
    intro i j hi hj hij
    have hj := List.mem_range.1 hj
    have hi := List.mem_range.1 hi
    have := List.pairwise_iff_getElem.1 ha i j hi hj hij
    simpa [List.getD, List.getElem?_eq_getElem hi, List.getElem?_eq_getElem hj] using this
theorem rng_none {ps : List Pt} {lo : Int} : rng ps lo lo = [] := by
  rw [rng, List.filter_eq_nil_iff]
  intro x _
  simp
theorem resI_of {ps : List Pt} {lo hi : Int} (h : ¬ resI ps lo hi < 0) : vrB ps lo hi = true := by
  by_cases hv : vrB ps lo hi = true
  · exact hv
  · rw [resI, if_neg hv] at h; omega
theorem c_fnResetsNone (bs : List UInt8) : Con Try.prog 11 [slB bs] [] (fun rs all => rs = [rB true] ∧ all = []) := by
  have hlen := byRs_len (bs := bs)
  refine con_of_aw (vars := [.tmp 2]) [(0, .r (slB bs))] [] 0 Try.func11 (by kernel_rfl) rfl Try.ntmps11 rfl (by decide) rfl rfl rfl rfl rfl ?_
  intro B M w0 ρ0 Z0
  repeat' (first | (refine is_al ?_; (first | (refine is_move ?_; (first | refine al_v (opx_move (.raw _)) ⟨rfl, trivial⟩ trivial rfl ?_ | refine al_v (opx_move (.sl _ _)) ⟨rfl, trivial⟩ trivial rfl ?_ | refine al_v (opx_move (.tup _)) ⟨rfl, trivial⟩ trivial rfl ?_)) | (refine is_bin ?_; refine al_v opx_gtr ⟨rfl, rfl, trivial⟩ trivial rfl ?_) | (refine is_assign ?_; (first | refine al_v (opx_assign (.raw _)) ⟨rfl, trivial⟩ trivial rfl ?_ | refine al_v (opx_assign (.sl _ _)) ⟨rfl, trivial⟩ trivial rfl ?_)) | (refine is_bi ?_; refine al_v opx_len_sl ⟨rfl, trivial⟩ trivial rfl ?_) | (refine is_call ?_; (refine al_callE (by (repeat (first | exact .nil | refine .one rfl rfl ?_ | refine .froz rfl rfl ?_ | refine .rnil rfl ?_ | refine .agg rfl (by (repeat (first | exact .nil | refine .cons (.same rfl) ?_ | refine .cons (.froz rfl) ?_ | refine .cons (.rnil) ?_)); (first | done | fail)) ?_)); (first | done | fail)) rfl (c_drawResets _ (by omega)) ?_; rintro ⟨ps, lo, hi⟩ h1; dsimp only at h1 ⊢)) | refine al_v (opx_extract _ rfl) ⟨rfl, trivial⟩ trivial rfl ?_ | refine al_nil ?_)) | (refine is_aw ?_; (first | refine aw_seq ?_ | refine aw_region ?_ | refine aw_skip ?_ | refine aw_ret ?_ | (refine is_cond ?_; (refine aw_cond rfl ?_ ?_ <;> ((intro hgd; try exact absurd hgd (by decide)); (try (have hz := hgd; simp only [decide_eq_true_eq, decide_eq_false_iff_not, Bool.not_eq_true', Bool.not_eq_false', Bool.not_true, Bool.not_false, beq_iff_eq, Int.not_le, Int.not_lt] at hz)); (try (exfalso; omega))))))) | refine thn_r ?_)
  · exact ret_raw trivial rfl ⟨congrArg (fun b => [rB b]) (rfl), rfl⟩
  have hE : (!decide (resI ps lo hi = resI ps lo hi)) = false := by simp
  have hE2 : decide (resI ps lo hi = resI ps lo hi) = true := by simp
  by_cases hneg : resI ps lo hi < 0
  · have hd : decide (resI ps lo hi < 0) = true := decide_eq_true hneg
    repeat' (first | (refine is_al ?_; (first | (refine is_gd ?_; refine al_on rfl rfl rfl (by assumption) ?_) | (refine is_move ?_; (first | refine al_v (opx_move (.raw _)) ⟨rfl, trivial⟩ trivial rfl ?_ | refine al_v (opx_move (.sl _ _)) ⟨rfl, trivial⟩ trivial rfl ?_)) | (refine is_bin ?_; (first | refine al_v opx_eql ⟨rfl, rfl, trivial⟩ trivial rfl ?_ | refine al_v opx_neq ⟨rfl, rfl, trivial⟩ trivial rfl ?_ | refine al_v opx_lss ⟨rfl, rfl, trivial⟩ trivial rfl ?_)) | (refine is_assign ?_; refine al_v (opx_assign (.raw _)) ⟨rfl, trivial⟩ trivial rfl ?_) | (refine is_pick ?_; refine al_v (opx_pick_f (.raw _) (by assumption)) ⟨rfl, rfl, trivial⟩ trivial rfl ?_) | (refine is_call ?_; (first | refine al_callv2 (by (repeat (first | exact .nil | refine .one rfl rfl ?_ | refine .froz rfl rfl ?_ | refine .row rfl rfl ?_ | refine .rnil rfl ?_ | refine .agg rfl (by (repeat (first | exact .nil | refine .cons (.same rfl) ?_ | refine .cons (.froz rfl) ?_ | refine .cons (.rnil) ?_ | refine .cons (.row rfl rfl) ?_)); (first | done | fail)) ?_)); (first | done | fail)) rfl (c_Resets _ _ _) rfl ?_ | refine al_callv2 (by (repeat (first | exact .nil | refine .one rfl rfl ?_ | refine .froz rfl rfl ?_ | refine .row rfl rfl ?_ | refine .rnil rfl ?_ | refine .agg rfl (by (repeat (first | exact .nil | refine .cons (.same rfl) ?_ | refine .cons (.froz rfl) ?_ | refine .cons (.rnil) ?_ | refine .cons (.row rfl rfl) ?_)); (first | done | fail)) ?_)); (first | done | fail)) rfl (c_sResets _ _ _ (by omega)) rfl ?_)) | refine al_nil ?_)) | (refine is_aw ?_; (first | refine aw_seq ?_ | refine aw_region ?_ | refine aw_ret ?_ | (refine is_cond ?_; refine aw_cond_t rfl (by assumption) ?_))) | refine thn_r ?_)
    exact ret_raw trivial rfl ⟨congrArg (fun b => [rB b]) (hE2), rfl⟩
  · have hd : decide (resI ps lo hi < 0) = false := decide_eq_false hneg
    have hv := resI_of hneg
    obtain ⟨hvs, hlo, hhi⟩ : VS ps ∧ irB lo = true ∧ irB hi = true := by
      rw [vrB, Bool.and_eq_true, Bool.and_eq_true] at hv; exact ⟨vsB_iff.1 hv.1, hv.2.1, hv.2.2⟩
    have h16 := hvs.1
    have hml : (mmosts ps ((16 : Nat) : Int)).length = ps.length := by
      rw [mmosts, if_pos (by simp [vwB, vsB_iff.2 hvs]), mmostTo_len]
    have hrl := inRs_len (ns := mmosts ps ((16 : Nat) : Int))
    have hpl := ptRs_len (ps := ps)
    repeat' (first | (refine is_al ?_; (first | (refine is_gd ?_; refine al_on rfl rfl rfl (by assumption) ?_) | (refine is_move ?_; (first | refine al_v (opx_move (.raw _)) ⟨rfl, trivial⟩ trivial rfl ?_ | refine al_v (opx_move (.sl _ _)) ⟨rfl, trivial⟩ trivial rfl ?_)) | (refine is_bin ?_; (first | refine al_v opx_neq ⟨rfl, rfl, trivial⟩ trivial rfl ?_ | refine al_v opx_lss ⟨rfl, rfl, trivial⟩ trivial rfl ?_)) | (refine is_assign ?_; (first | refine al_v (opx_assign (.raw _)) ⟨rfl, trivial⟩ trivial rfl ?_ | refine al_v (opx_assign (.sl _ _)) ⟨rfl, trivial⟩ trivial rfl ?_ | refine al_v (opx_assign (.own _)) ⟨rfl, trivial⟩ trivial rfl ?_)) | (refine is_pick ?_; refine al_v (opx_pick_f (.raw _) (by assumption)) ⟨rfl, rfl, trivial⟩ trivial rfl ?_) | (refine is_call ?_; (first | refine al_callv2 (by (repeat (first | exact .nil | refine .one rfl rfl ?_ | refine .froz rfl rfl ?_ | refine .row rfl rfl ?_ | refine .rnil rfl ?_ | refine .agg rfl (by (repeat (first | exact .nil | refine .cons (.same rfl) ?_ | refine .cons (.froz rfl) ?_ | refine .cons (.rnil) ?_ | refine .cons (.row rfl rfl) ?_)); (first | done | fail)) ?_)); (first | done | fail)) rfl (c_Resets _ _ _) rfl ?_ | refine al_callv2 (by (repeat (first | exact .nil | refine .one rfl rfl ?_ | refine .froz rfl rfl ?_ | refine .row rfl rfl ?_ | refine .rnil rfl ?_ | refine .agg rfl (by (repeat (first | exact .nil | refine .cons (.same rfl) ?_ | refine .cons (.froz rfl) ?_ | refine .cons (.rnil) ?_ | refine .cons (.row rfl rfl) ?_)); (first | done | fail)) ?_)); (first | done | fail)) rfl (c_sResets _ _ _ (by omega)) rfl ?_ | refine al_callF (by (repeat (first | exact .nil | refine .one rfl rfl ?_ | refine .froz rfl rfl ?_ | refine .rnil rfl ?_ | refine .agg rfl (by (repeat (first | exact .nil | refine .cons (.same rfl) ?_ | refine .cons (.froz rfl) ?_ | refine .cons (.rnil) ?_)); (first | done | fail)) ?_)); (first | done | fail)) rfl (c_movingMost' _ _) rfl ?_)) | (refine is_bs ?_; refine al_n opx_lit0 trivial trivial rfl ?_) | refine al_nil ?_)) | (refine is_aw ?_; (first | refine aw_seq ?_ | refine aw_region ?_ | refine aw_skip ?_ | refine aw_block ?_ | (refine is_cond ?_; refine aw_cond_f rfl (by assumption) ?_))))
    refine aw_loop (γ := Nat) (fun k => [(2, .b false), (3, .r (slP ps)), (4, .r (rI lo)), (5, .r (rI hi)), (7, .r (slI (mmosts ps ((16 : Nat) : Int)))), (8, .own 0), (9, .i (k : Int))]) (fun k => [(0, .row 2 39 (ptRs (upTo ps k)))]) (fun _ => 1)
      (fun k => k ≤ ps.length) (fun k => ps.length - k) 0 (Nat.zero_le _) (le_mk [0] rfl rfl rfl rfl ⟨rfl, rfl, rfl, rfl, rfl, rfl, rfl, trivial⟩ ⟨rfl, trivial⟩) ?_
    intro k hk
    have hul := upTo_len (ps := ps) (k := k)
    have hpu := ptRs_len (ps := upTo ps k)
    rcases Nat.lt_or_ge k ps.length with hlt | hge
    · have hc : decide ((k : Int) < ((ptRs ps).length : Int)) = true := decide_eq_true (by omega)
      have hc2 : decide ((k : Int) < ((inRs (mmosts ps ((16 : Nat) : Int))).length : Int)) = true := decide_eq_true (by omega)
      obtain ⟨p, hp⟩ : ∃ p, ps[k]? = some p := ⟨_, List.getElem?_eq_getElem hlt⟩
      have hpr := ptRs_at hp
      have hx := inRs_at (mmosts_at hvs (w := 16) (by omega) hlt)
      have hs := upTo_succ hp
      repeat' (first | (refine is_al ?_; (first | (refine is_gd ?_; refine al_on rfl rfl rfl (by assumption) ?_) | (refine is_move ?_; (first | refine al_v (opx_move (.raw _)) ⟨rfl, trivial⟩ trivial rfl ?_ | refine al_v (opx_move (.sl _ _)) ⟨rfl, trivial⟩ trivial rfl ?_)) | (refine is_bin ?_; (first | refine al_v opx_lss ⟨rfl, rfl, trivial⟩ trivial rfl ?_ | refine al_v (opx_add (by unfold InR; omega)) ⟨rfl, rfl, trivial⟩ trivial rfl ?_)) | (refine is_assign ?_; refine al_v (opx_assign (.raw _)) ⟨rfl, trivial⟩ trivial rfl ?_) | (refine is_pick ?_; refine al_v (opx_pick_t (.raw _) (by assumption)) ⟨rfl, rfl, trivial⟩ trivial rfl ?_) | (refine is_bi ?_; refine al_v opx_len_sl ⟨rfl, trivial⟩ trivial rfl ?_) | refine al_nil ?_)) | (refine is_ad ?_; (first | (refine isd_move ?_; (first | refine ad_v (opx_move (.raw _)) ⟨rfl, trivial⟩ trivial rfl ?_ | refine ad_v (opx_move (.sl _ _)) ⟨rfl, trivial⟩ trivial rfl ?_ | refine ad_v (opx_move (.own _)) ⟨rfl, trivial⟩ trivial rfl ?_)) | (refine isd_load ?_; refine ad_v opx_ld_imm ⟨rfl, trivial⟩ trivial rfl ?_) | (refine isd_fa ?_; refine ad_v opx_fa_imm0 ⟨rfl, trivial⟩ trivial rfl ?_) | (refine isd_assign ?_; refine ad_v (opx_assign (.own _)) ⟨rfl, trivial⟩ trivial rfl ?_) | (refine isd_ia ?_; (first | refine ad_v (opx_ia_sl2 hpr (by omega)) ⟨rfl, rfl, trivial⟩ trivial rfl ?_ | refine ad_v (opx_ia_sl2 hx (by omega)) ⟨rfl, rfl, trivial⟩ trivial rfl ?_)) | refine ad_v (opx_build2 (res := [_, _]) rfl) ⟨rfl, rfl, trivial⟩ trivial rfl ?_ | (refine isd_bs ?_; refine ad_pushP ⟨rfl, trivial⟩ rfl rfl rfl rfl rfl (by omega) ?_) | refine ad_nil (by kernel_rfl) ?_)) | (refine is_aw ?_; (first | refine aw_seq ?_ | refine aw_region ?_ | refine aw_skip ?_ | refine aw_block ?_ | (refine is_cond ?_; refine aw_cond_t rfl (by assumption) ?_) | refine aw_draw mixed ?_)) | refine thn_n ?_)
      exact ⟨k + 1, hlt, by omega, le_mk [2] rfl rfl rfl rfl ⟨rfl, rfl, rfl, rfl, rfl, rfl, rfl, trivial⟩ ⟨by rw [← hs]; rfl, trivial⟩⟩
    · have hc : decide ((k : Int) < ((ptRs ps).length : Int)) = false := decide_eq_false (by omega)
      have hke : k = ps.length := by omega
      subst hke
      have hr1 : resI (upTo ps ps.length) lo hi = 0 := by
        rw [resI, if_pos (by rw [vrB, vsB_iff.2 (upTo_VS hvs), hlo, hhi]; rfl), falls_zero (ps := rng (upTo ps ps.length) lo hi) (List.Pairwise.filter _ (upTo_up h16))]; rfl
      have hr2 : resI ps lo lo = 0 := by
        rw [resI, if_pos (by rw [vrB, vsB_iff.2 hvs, hlo]; rfl), rng_none]; rfl
      have hd1 : decide (resI (upTo ps ps.length) lo hi = 0) = true := decide_eq_true hr1
      have hd2 : decide (resI ps lo lo = 0) = true := decide_eq_true hr2
      repeat' (first | (refine is_al ?_; (first | (refine is_gd ?_; (first | refine al_on rfl rfl rfl (by assumption) ?_ | refine al_off rfl rfl rfl (by assumption) rfl ?_)) | (refine is_move ?_; (first | refine al_v (opx_move (.raw _)) ⟨rfl, trivial⟩ trivial rfl ?_ | refine al_v (opx_move (.sl _ _)) ⟨rfl, trivial⟩ trivial rfl ?_ | refine al_v (opx_move (.own _)) ⟨rfl, trivial⟩ trivial rfl ?_)) | (refine is_bin ?_; (first | refine al_v opx_eql ⟨rfl, rfl, trivial⟩ trivial rfl ?_ | refine al_v opx_lss ⟨rfl, rfl, trivial⟩ trivial rfl ?_)) | (refine is_assign ?_; refine al_v (opx_assign (.raw _)) ⟨rfl, trivial⟩ trivial rfl ?_) | (refine is_pick ?_; (first | refine al_v (opx_pick_t (.raw _) (by assumption)) ⟨rfl, rfl, trivial⟩ trivial rfl ?_ | refine al_v (opx_pick_f (.raw _) (by assumption)) ⟨rfl, rfl, trivial⟩ trivial rfl ?_)) | (refine is_bi ?_; refine al_v opx_len_sl ⟨rfl, trivial⟩ trivial rfl ?_) | (refine is_call ?_; refine al_callv2 (by (repeat (first | exact .nil | refine .one rfl rfl ?_ | refine .froz rfl rfl ?_ | refine .row rfl rfl ?_ | refine .rnil rfl ?_ | refine .agg rfl (by (repeat (first | exact .nil | refine .cons (.same rfl) ?_ | refine .cons (.froz rfl) ?_ | refine .cons (.rnil) ?_ | refine .cons (.row rfl rfl) ?_)); (first | done | fail)) ?_)); (first | done | fail)) rfl (c_Resets _ _ _) rfl ?_) | refine al_nil ?_)) | (refine is_aw ?_; (first | refine aw_seq ?_ | refine aw_region ?_ | refine aw_ret ?_ | refine aw_exit ?_ | (refine is_cond ?_; refine aw_cond_f rfl rfl ?_))))
      exact ret_raw trivial rfl ⟨congrArg (fun b => [rB b]) (hd2), rfl⟩
end Go.Proofs.Ytekjcejmmhdnkaa
