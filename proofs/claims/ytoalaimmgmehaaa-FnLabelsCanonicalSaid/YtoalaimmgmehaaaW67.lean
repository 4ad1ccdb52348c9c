/-
  Labels: the reference's parsing: the walks.
-/
import Derived.Test.YtoalaimmgmehaaaW66
namespace Go.Proofs.Ytoalaimmgmehaaa
open Go.RowKit
set_option linter.unusedVariables false
set_option linter.unusedSimpArgs false
attribute [local irreducible] AL AW OpX Le AD

theorem c_splitAt (s : Str) (c : UInt8) (hs : s.length ≤ 1000000000) : Con Try.prog 74 [rStr s, .one (.c (.raw (.int .u8 c.toNat)))] [] (fun rs all => rs = [.one (.own 0)] ∧ all = [.row 1 9 (stRs (spl c s))]) := by
  refine con_of_aw (vars := [.tmp 4]) [(0, .r (rStr s)), (1, .r (.one (.c (.raw (.int .u8 c.toNat)))))] [] 0 Try.func74 (by kernel_rfl) rfl Try.ntmps74 rfl (by decide) rfl rfl rfl rfl rfl ?_
  intro B M w0 ρ0 Z0
  repeat' (first | (refine is_al ?_; (first | (refine is_assign ?_; (first | refine al_v (opx_assign (.raw _)) ⟨rfl, trivial⟩ trivial rfl ?_ | refine al_v (opx_assign (.own _)) ⟨rfl, trivial⟩ trivial rfl ?_)) | (refine is_bs ?_; refine al_n opx_lit0 trivial trivial rfl ?_) | refine al_nil ?_)) | (refine is_aw ?_; (first | refine aw_seq ?_ | refine aw_region ?_ | refine aw_block ?_)))
  refine aw_loop (γ := List Str × Nat × Nat) (fun g => [(0, .r (rStr s)), (1, .r (.one (.c (.raw (.int .u8 c.toNat))))), (5, .own 0), (6, .i (g.2.1 : Int)), (7, .i (g.2.2 : Int))]) (fun g => [(0, .row 1 9 (stRs g.1))]) (fun _ => 1)
    (fun g => g.2.1 ≤ g.2.2 ∧ g.2.2 ≤ s.length ∧ spl c s = g.1 ++ spl c (s.drop g.2.1) ∧ c ∉ (s.take g.2.2).drop g.2.1 ∧ g.1.length ≤ g.2.1) (fun g => s.length - g.2.2) ([], 0, 0) ⟨Nat.le_refl _, Nat.zero_le _, rfl, by simp, Nat.le_refl _⟩ (le_mk [0] rfl rfl rfl rfl ⟨rfl, rfl, rfl, rfl, rfl, trivial⟩ ⟨rfl, trivial⟩) ?_
  rintro ⟨out, f, i⟩ ⟨h1, h2, h3, h4, h5⟩
  dsimp only at h1 h2 h3 h4 h5 ⊢
  rcases Nat.lt_or_ge i s.length with hlt | hge
  · have hc1 : decide ((i : Int) < (s.length : Int)) = true := decide_eq_true (by omega)
    obtain ⟨b, hb⟩ : ∃ b, s[i]? = some b := ⟨_, List.getElem?_eq_getElem hlt⟩
    by_cases e : b = c
    · subst e
      have d1 : decide ((b.toNat : Int) = (b.toNat : Int)) = true := eqD _
      have hdr : s.drop f = (s.take i).drop f ++ b :: s.drop (i + 1) := by
        obtain ⟨_, rfl⟩ := List.getElem?_eq_some_iff.1 hb
        have e1 : s[i] :: s.drop (i + 1) = s.drop i := (List.drop_eq_getElem_cons hlt).symm
        have e2 : s = s.take i ++ s.drop i := (List.take_append_drop i s).symm
        rw [e1]
        conv => lhs; rw [e2]
        rw [List.drop_append_of_le_length (by rw [List.length_take]; omega)]
      have hsp : spl b s = (out ++ [(s.take i).drop f]) ++ spl b (s.drop (i + 1)) := by rw [h3, hdr, spl_cut h4, List.append_assoc]; rfl
      repeat' (first | (refine is_al ?_; (first | (refine is_move ?_; (first | refine al_v (opx_move (.raw _)) ⟨rfl, trivial⟩ trivial rfl ?_ | refine al_v (opx_move (.own _)) ⟨rfl, trivial⟩ trivial rfl ?_)) | (refine is_bin ?_; (first | refine al_v opx_eql ⟨rfl, rfl, trivial⟩ trivial rfl ?_ | refine al_v opx_lss ⟨rfl, rfl, trivial⟩ trivial rfl ?_ | refine al_v (opx_add (by unfold InR; omega)) ⟨rfl, rfl, trivial⟩ trivial rfl ?_)) | (refine is_assign ?_; (first | refine al_v (opx_assign (.raw _)) ⟨rfl, trivial⟩ trivial rfl ?_ | refine al_v (opx_assign (.own _)) ⟨rfl, trivial⟩ trivial rfl ?_)) | (refine is_bi ?_; refine al_v opx_len_str ⟨rfl, trivial⟩ trivial rfl ?_) | (refine is_bs ?_; refine al_pushS ⟨rfl, trivial⟩ rfl rfl rfl rfl rfl (by omega) ?_) | refine al_nil ?_ | refine al_v (opx_sidx (k := i) rfl hb) ⟨rfl, rfl, trivial⟩ trivial rfl ?_ | refine al_v (opx_cutLH_str (l := f) (h := i) (s' := (s.take i).drop f) rfl rfl rfl (by omega)) ⟨rfl, rfl, rfl, trivial⟩ trivial rfl ?_)) | (refine is_ad ?_; (first | refine al_v (opx_sidx (k := i) rfl hb) ⟨rfl, rfl, trivial⟩ trivial rfl ?_ | refine al_v (opx_cutLH_str (l := f) (h := i) (s' := (s.take i).drop f) rfl rfl rfl (by omega)) ⟨rfl, rfl, rfl, trivial⟩ trivial rfl ?_)) | (refine is_aw ?_; (first | refine aw_seq ?_ | refine aw_region ?_ | refine aw_skip ?_ | refine aw_block ?_ | (refine is_cond ?_; refine aw_cond_t rfl (by assumption) ?_))) | refine thn_n ?_)
      exact ⟨(out ++ [(s.take i).drop f], i + 1, i + 1), ⟨Nat.le_refl _, hlt, hsp, by simp, by rw [List.length_append, List.length_singleton]; dsimp only; omega⟩, by dsimp only; omega, le_mk [_] rfl rfl rfl rfl ⟨rfl, rfl, rfl, rfl, rfl, trivial⟩ ⟨rfl, trivial⟩⟩
    · have d1 : decide ((b.toNat : Int) = (c.toNat : Int)) = false := decide_eq_false fun h => e (UInt8.toNat_inj.1 (by omega))
      have h6 : c ∉ (s.take (i + 1)).drop f := by
        rw [List.take_add_one, hb, List.drop_append_of_le_length (by rw [List.length_take]; omega)]
        intro hm
        rcases List.mem_append.1 hm with hm | hm
        · exact h4 hm
        · simp at hm; exact e hm.symm
      repeat' (first | (refine is_al ?_; (first | (refine is_move ?_; refine al_v (opx_move (.raw _)) ⟨rfl, trivial⟩ trivial rfl ?_) | (refine is_bin ?_; (first | refine al_v opx_eql ⟨rfl, rfl, trivial⟩ trivial rfl ?_ | refine al_v opx_lss ⟨rfl, rfl, trivial⟩ trivial rfl ?_ | refine al_v (opx_add (by unfold InR; omega)) ⟨rfl, rfl, trivial⟩ trivial rfl ?_)) | (refine is_assign ?_; refine al_v (opx_assign (.raw _)) ⟨rfl, trivial⟩ trivial rfl ?_) | (refine is_bi ?_; refine al_v opx_len_str ⟨rfl, trivial⟩ trivial rfl ?_) | refine al_nil ?_ | refine al_v (opx_sidx (k := i) rfl hb) ⟨rfl, rfl, trivial⟩ trivial rfl ?_)) | (refine is_ad ?_; refine al_v (opx_sidx (k := i) rfl hb) ⟨rfl, rfl, trivial⟩ trivial rfl ?_) | (refine is_aw ?_; (first | refine aw_seq ?_ | refine aw_region ?_ | refine aw_skip ?_ | refine aw_block ?_ | (refine is_cond ?_; (first | refine aw_cond_t rfl (by assumption) ?_ | refine aw_cond_f rfl (by assumption) ?_)))) | refine thn_n ?_)
      exact ⟨(out, f, i + 1), ⟨by dsimp only; omega, hlt, h3, h6, h5⟩, by dsimp only; omega, le_mk [0] rfl rfl rfl rfl ⟨rfl, rfl, rfl, rfl, rfl, trivial⟩ ⟨rfl, trivial⟩⟩
  · have hc1 : decide ((i : Int) < (s.length : Int)) = false := decide_eq_false (by omega)
    rw [List.take_of_length_le hge] at h4
    have hsp : spl c s = out ++ [s.drop f] := by rw [h3, spl_none h4]
    repeat' (first | (refine is_al ?_; (first | (refine is_move ?_; (first | refine al_v (opx_move (.raw _)) ⟨rfl, trivial⟩ trivial rfl ?_ | refine al_v (opx_move (.own _)) ⟨rfl, trivial⟩ trivial rfl ?_)) | (refine is_bin ?_; refine al_v opx_lss ⟨rfl, rfl, trivial⟩ trivial rfl ?_) | (refine is_assign ?_; refine al_v (opx_assign (.own _)) ⟨rfl, trivial⟩ trivial rfl ?_) | (refine is_bi ?_; refine al_v opx_len_str ⟨rfl, trivial⟩ trivial rfl ?_) | (refine is_bs ?_; refine al_pushS ⟨rfl, trivial⟩ rfl rfl rfl rfl rfl (by omega) ?_) | refine al_nil ?_ | refine al_v (opx_cutL_str (l := f) (s' := s.drop f) (by rw [List.take_length]) rfl (by omega)) ⟨rfl, rfl, trivial⟩ trivial rfl ?_)) | (refine is_ad ?_; refine al_v (opx_cutL_str (l := f) (s' := s.drop f) (by rw [List.take_length]) rfl (by omega)) ⟨rfl, rfl, trivial⟩ trivial rfl ?_) | (refine is_aw ?_; (first | refine aw_seq ?_ | refine aw_region ?_ | refine aw_ret ?_ | refine aw_exit ?_ | (refine is_cond ?_; refine aw_cond_f rfl (by assumption) ?_))))
    exact ret_row trivial rfl rfl ⟨rfl, by rw [hsp]⟩
theorem c_splitAt' (s : Str) (c : UInt8) (hs : s.length ≤ 1000000000) : Con Try.prog 74 [rStr s, .one (.c (.raw (.int .u8 c.toNat)))] [] (fun rs all => rs = [slS (spl c s)] ∧ all = []) :=
  (c_splitAt s c hs).froz fun rs all ⟨h1, h2⟩ => by subst h1 h2; exact ⟨⟨rfl, rfl⟩, rfl⟩
end Go.Proofs.Ytoalaimmgmehaaa
