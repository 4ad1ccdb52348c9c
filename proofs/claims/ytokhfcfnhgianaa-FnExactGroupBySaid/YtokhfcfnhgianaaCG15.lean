/- Texts: W121 W130 Eng35 -/
import Derived.Test.YtokhfcfnhgianaaCG14
import Derived.Test.YtokhfcfnhgianaaCG10
import Derived.Test.YtokhfcfnhgianaaCG12
import Derived.Test.YtokhfcfnhgianaaCG8
import Derived.Test.YtokhfcfnhgianaaCG7
/-
  Lists of texts of an exact law: their size, copied, side by side.
-/
namespace Go.Proofs.Ytokhfcfnhgianaa
open Go.RowKit
set_option linter.unusedVariables false
set_option linter.unusedSimpArgs false
attribute [local irreducible] AL AW OpX Le AD

def totS (ls : List Str) : Nat := (ls.map (·.length)).sum
theorem totS_cons {l : Str} {ls : List Str} : totS (l :: ls) = l.length + totS ls := by simp [totS]
theorem totS_take {ls : List Str} {k : Nat} {l : Str} (h : ls[k]? = some l) : totS (ls.take (k + 1)) = totS (ls.take k) + l.length := by
  rw [List.take_add_one, h, totS, totS]
  simp
theorem totS_mem {ls : List Str} {l : Str} (h : l ∈ ls) : l.length ≤ totS ls := by
  induction ls with
  | nil => cases h
  | cons x ls ih =>
    rw [totS_cons]
    rcases List.mem_cons.1 h with rfl | h
    · omega
    · have := ih h; omega
theorem totS_app {a b : List Str} : totS (a ++ b) = totS a + totS b := by simp [totS]
theorem totS_le {ls : List Str} (k : Nat) : totS (ls.take k) ≤ totS ls := by
  have h := totS_app (a := ls.take k) (b := ls.drop k)
  rw [List.take_append_drop] at h
  omega
def szS (left : Int) (ls : List Str) : Int := if left - (ls.length : Int) - (totS ls : Int) < 0 then -1 else left - (ls.length : Int) - (totS ls : Int)
theorem szS_ok {left : Int} {ls : List Str} (h : left ≤ 1048576) (h2 : ¬ szS left ls < 0) : ls.length ≤ 1048576 ∧ ∀ l ∈ ls, l.length ≤ 1048576 := by
  unfold szS at h2
  split at h2
  · omega
  · exact ⟨by omega, fun l hl => by have := totS_mem hl; omega⟩
theorem c_szStringS (ls : List Str) (left : Int) (hl : -1 ≤ left ∧ left ≤ 1048576) (hL : ls.length ≤ 9223372036854775807) (hM : ∀ l ∈ ls, l.length ≤ 9223372036854775807) : Con Try.prog 5 [slS ls, rI left] [] (fun rs all => rs = [rI (szS left ls)] ∧ all = []) := by
  have hlen := stRs_len (xs := ls)
  refine con_of_aw (vars := [.tmp 4]) [(0, .r (slS ls)), (1, .r (rI left))] [] 0 Try.func5 (by kernel_rfl) rfl Try.ntmps5 rfl (by decide) rfl rfl rfl rfl rfl ?_; intro B M w0 ρ0 Z0
  by_cases h : left - (ls.length : Int) < 0
  · have hd : decide (left - ((stRs ls).length : Int) < 0) = true := decide_eq_true (by omega)
    repeat' (first | (refine is_al ?_; (first | (refine is_move ?_; (first | refine al_v (opx_move (.raw _)) ⟨rfl, trivial⟩ trivial rfl ?_ | refine al_v (opx_move (.sl _ _)) ⟨rfl, trivial⟩ trivial rfl ?_)) | (refine is_bin ?_; (first | refine al_v opx_lss ⟨rfl, rfl, trivial⟩ trivial rfl ?_ | refine al_v (opx_sub (by unfold InR; omega)) ⟨rfl, rfl, trivial⟩ trivial rfl ?_)) | (refine is_assign ?_; refine al_v (opx_assign (.raw _)) ⟨rfl, trivial⟩ trivial rfl ?_) | (refine is_bi ?_; refine al_v opx_len_sl ⟨rfl, trivial⟩ trivial rfl ?_) | refine al_nil ?_)) | (refine is_aw ?_; (first | refine aw_seq ?_ | refine aw_region ?_ | refine aw_ret ?_ | (refine is_cond ?_; refine aw_cond_t rfl (by assumption) ?_))) | refine thn_r ?_)
    exact ret_raw trivial rfl ⟨by rw [szS, if_pos (by omega)], rfl⟩
  have hd : decide (left - ((stRs ls).length : Int) < 0) = false := decide_eq_false (by omega)
  repeat' (first | (refine is_al ?_; (first | (refine is_move ?_; (first | refine al_v (opx_move (.raw _)) ⟨rfl, trivial⟩ trivial rfl ?_ | refine al_v (opx_move (.sl _ _)) ⟨rfl, trivial⟩ trivial rfl ?_)) | (refine is_bin ?_; (first | refine al_v opx_lss ⟨rfl, rfl, trivial⟩ trivial rfl ?_ | refine al_v (opx_sub (by unfold InR; omega)) ⟨rfl, rfl, trivial⟩ trivial rfl ?_)) | (refine is_assign ?_; refine al_v (opx_assign (.raw _)) ⟨rfl, trivial⟩ trivial rfl ?_) | (refine is_bi ?_; refine al_v opx_len_sl ⟨rfl, trivial⟩ trivial rfl ?_) | refine al_nil ?_)) | (refine is_aw ?_; (first | refine aw_seq ?_ | refine aw_region ?_ | refine aw_skip ?_ | refine aw_block ?_ | (refine is_cond ?_; refine aw_cond_f rfl (by assumption) ?_))))
  refine aw_loop (γ := Nat) (fun k => [(0, .r (slS ls)), (1, .i (left - ((stRs ls).length : Int) - (totS (ls.take k) : Int))), (5, .i (k : Int))]) (fun _ => []) (fun _ => 0) (fun k => k ≤ ls.length ∧ 0 ≤ left - (ls.length : Int) - (totS (ls.take k) : Int)) (fun k => ls.length - k) 0 ⟨Nat.zero_le _, by simp [totS]; omega⟩ (le_mk [] rfl rfl rfl rfl ⟨rfl, by rw [show left - ((stRs ls).length : Int) - (totS (ls.take 0) : Int) = left - ((stRs ls).length : Int) by simp [totS]]; rfl, rfl, trivial⟩ trivial) ?_
  rintro k ⟨hk, h0⟩
  rcases Nat.lt_or_ge k ls.length with hlt | hge
  · have hc : decide ((k : Int) < ((stRs ls).length : Int)) = true := decide_eq_true (by omega)
    obtain ⟨l, hlk⟩ : ∃ l, ls[k]? = some l := ⟨_, List.getElem?_eq_getElem hlt⟩
    have hlr := stRs_at hlk
    have hll := hM l (List.mem_of_getElem? hlk)
    have hs := totS_take hlk
    have he : left - ((stRs ls).length : Int) - (totS (ls.take k) : Int) - (l.length : Int) = left - ((stRs ls).length : Int) - (totS (ls.take (k + 1)) : Int) := by rw [hs]; omega
    have hI : InR (left - ((stRs ls).length : Int) - (totS (ls.take k) : Int) - (l.length : Int)) := by unfold InR; omega
    by_cases hn : left - ((stRs ls).length : Int) - (totS (ls.take k) : Int) - (l.length : Int) < 0
    · have hd2 : decide (left - ((stRs ls).length : Int) - (totS (ls.take k) : Int) - (l.length : Int) < 0) = true := decide_eq_true hn
      have ht := totS_le (ls := ls) (k + 1)
      repeat' (first | (refine is_al ?_; (first | (refine is_move ?_; (first | refine al_v (opx_move (.raw _)) ⟨rfl, trivial⟩ trivial rfl ?_ | refine al_v (opx_move (.sl _ _)) ⟨rfl, trivial⟩ trivial rfl ?_)) | (refine is_bin ?_; (first | refine al_v opx_lss ⟨rfl, rfl, trivial⟩ trivial rfl ?_ | refine al_v (opx_sub (by unfold InR; omega)) ⟨rfl, rfl, trivial⟩ trivial rfl ?_)) | (refine is_load ?_; refine al_v opx_ld_imm ⟨rfl, trivial⟩ trivial rfl ?_) | (refine is_assign ?_; refine al_v (opx_assign (.raw _)) ⟨rfl, trivial⟩ trivial rfl ?_) | (refine is_bi ?_; (first | refine al_v opx_len_sl ⟨rfl, trivial⟩ trivial rfl ?_ | refine al_v opx_len_str ⟨rfl, trivial⟩ trivial rfl ?_)) | (refine is_ia ?_; refine al_v (opx_ia_sl2 hlr (by omega)) ⟨rfl, rfl, trivial⟩ trivial rfl ?_) | refine al_nil ?_)) | (refine is_aw ?_; (first | refine aw_seq ?_ | refine aw_region ?_ | refine aw_skip ?_ | refine aw_block ?_ | refine aw_ret ?_ | (refine is_cond ?_; refine aw_cond_t rfl (by assumption) ?_))) | refine thn_r ?_ | refine inb_r ?_)
      exact ret_raw trivial rfl ⟨by rw [szS, if_pos (by omega)], rfl⟩
    · have hd2 : decide (left - ((stRs ls).length : Int) - (totS (ls.take k) : Int) - (l.length : Int) < 0) = false := decide_eq_false hn
      repeat' (first | (refine is_al ?_; (first | (refine is_move ?_; (first | refine al_v (opx_move (.raw _)) ⟨rfl, trivial⟩ trivial rfl ?_ | refine al_v (opx_move (.sl _ _)) ⟨rfl, trivial⟩ trivial rfl ?_)) | (refine is_bin ?_; (first | refine al_v opx_lss ⟨rfl, rfl, trivial⟩ trivial rfl ?_ | refine al_v (opx_add (by unfold InR; omega)) ⟨rfl, rfl, trivial⟩ trivial rfl ?_ | refine al_v (opx_sub (by unfold InR; omega)) ⟨rfl, rfl, trivial⟩ trivial rfl ?_)) | (refine is_load ?_; refine al_v opx_ld_imm ⟨rfl, trivial⟩ trivial rfl ?_) | (refine is_assign ?_; refine al_v (opx_assign (.raw _)) ⟨rfl, trivial⟩ trivial rfl ?_) | (refine is_bi ?_; (first | refine al_v opx_len_sl ⟨rfl, trivial⟩ trivial rfl ?_ | refine al_v opx_len_str ⟨rfl, trivial⟩ trivial rfl ?_)) | (refine is_ia ?_; refine al_v (opx_ia_sl2 hlr (by omega)) ⟨rfl, rfl, trivial⟩ trivial rfl ?_) | refine al_nil ?_)) | (refine is_aw ?_; (first | refine aw_seq ?_ | refine aw_region ?_ | refine aw_skip ?_ | refine aw_block ?_ | (refine is_cond ?_; (first | refine aw_cond_t rfl (by assumption) ?_ | refine aw_cond_f rfl (by assumption) ?_)))) | refine thn_n ?_)
      exact ⟨k + 1, ⟨hlt, by omega⟩, by omega, le_mk [] rfl rfl rfl rfl ⟨rfl, by rw [← he]; rfl, rfl, trivial⟩ trivial⟩
  · have hc : decide ((k : Int) < ((stRs ls).length : Int)) = false := decide_eq_false (by omega)
    rw [List.take_of_length_le hge] at h0 ⊢
    repeat' (first | (refine is_al ?_; (first | (refine is_move ?_; (first | refine al_v (opx_move (.raw _)) ⟨rfl, trivial⟩ trivial rfl ?_ | refine al_v (opx_move (.sl _ _)) ⟨rfl, trivial⟩ trivial rfl ?_)) | (refine is_bin ?_; refine al_v opx_lss ⟨rfl, rfl, trivial⟩ trivial rfl ?_) | (refine is_assign ?_; refine al_v (opx_assign (.raw _)) ⟨rfl, trivial⟩ trivial rfl ?_) | (refine is_bi ?_; refine al_v opx_len_sl ⟨rfl, trivial⟩ trivial rfl ?_) | refine al_nil ?_)) | (refine is_aw ?_; (first | refine aw_seq ?_ | refine aw_region ?_ | refine aw_ret ?_ | refine aw_exit ?_ | (refine is_cond ?_; refine aw_cond_f rfl (by assumption) ?_))))
    exact ret_raw trivial rfl ⟨by rw [szS, if_neg (by omega), hlen], rfl⟩
theorem c_toStringS (ls : List Str) (hL : ls.length ≤ 2000000) : Con Try.prog 8 [slS ls] [] (fun rs all => rs = [.one (.own 0)] ∧ all = [.row 1 9 (stRs ls)]) := by
  have hlen := stRs_len (xs := ls)
  refine con_of_aw (vars := [.tmp 2]) [(0, .r (slS ls))] [] 0 Try.func8 (by kernel_rfl) rfl Try.ntmps8 rfl (by decide) rfl rfl rfl rfl rfl ?_; intro B M w0 ρ0 Z0
  repeat' (first | (refine is_al ?_; (first | (refine is_move ?_; refine al_v (opx_move (.sl _ _)) ⟨rfl, trivial⟩ trivial rfl ?_) | (refine is_assign ?_; (first | refine al_v (opx_assign (.raw _)) ⟨rfl, trivial⟩ trivial rfl ?_ | refine al_v (opx_assign (.own _)) ⟨rfl, trivial⟩ trivial rfl ?_)) | (refine is_bi ?_; refine al_v opx_len_sl ⟨rfl, trivial⟩ trivial rfl ?_) | refine al_nil ?_ | refine al_mkn (rows := stRs (List.replicate ls.length [])) ls.length (by simp [stRs]) (by omega) rfl rfl rfl rfl (by omega) ?_)) | (refine is_ad ?_; refine al_mkn (rows := stRs (List.replicate ls.length [])) ls.length (by simp [stRs]) (by omega) rfl rfl rfl rfl (by omega) ?_) | (refine is_aw ?_; (first | refine aw_seq ?_ | refine aw_region ?_ | refine aw_block ?_)))
  refine aw_loop (γ := Nat) (fun k => [(0, .r (slS ls)), (3, .own 0), (4, .i (k : Int))]) (fun k => [(0, .row 1 9 (stRs (ls.take k ++ List.replicate (ls.length - k) [])))]) (fun _ => 1)
    (fun k => k ≤ ls.length) (fun k => ls.length - k) 0 (Nat.zero_le _) (le_mk [0] rfl rfl rfl rfl ⟨rfl, rfl, rfl, trivial⟩ ⟨rfl, trivial⟩) ?_
  intro k hk
  rcases Nat.lt_or_ge k ls.length with hlt | hge
  · have hc : decide ((k : Int) < ((stRs ls).length : Int)) = true := decide_eq_true (by omega)
    obtain ⟨p, hp⟩ : ∃ p, ls[k]? = some p := ⟨_, List.getElem?_eq_getElem hlt⟩
    have hpr := stRs_at hp
    have hko : k < (ls.take k ++ List.replicate (ls.length - k) ([] : Str)).length := by simp; omega
    have hko2 : k < (stRs (ls.take k ++ List.replicate (ls.length - k) ([] : Str))).length := by rw [stRs_len]; exact hko
    have hko3 : (ls.take k ++ List.replicate (ls.length - k) ([] : Str))[k]? = some _ := List.getElem?_eq_getElem hko
    repeat' (first | (refine is_al ?_; (first | (refine is_move ?_; (first | refine al_v (opx_move (.raw _)) ⟨rfl, trivial⟩ trivial rfl ?_ | refine al_v (opx_move (.sl _ _)) ⟨rfl, trivial⟩ trivial rfl ?_ | refine al_v (opx_move (.own _)) ⟨rfl, trivial⟩ trivial rfl ?_)) | (refine is_bin ?_; (first | refine al_v opx_lss ⟨rfl, rfl, trivial⟩ trivial rfl ?_ | refine al_v (opx_add (by unfold InR; omega)) ⟨rfl, rfl, trivial⟩ trivial rfl ?_)) | (refine is_load ?_; refine al_v opx_ld_imm ⟨rfl, trivial⟩ trivial rfl ?_) | (refine is_assign ?_; refine al_v (opx_assign (.raw _)) ⟨rfl, trivial⟩ trivial rfl ?_) | (refine is_bi ?_; refine al_v opx_len_sl ⟨rfl, trivial⟩ trivial rfl ?_) | (refine is_ia ?_; (first | refine al_v (opx_ia_sl2 hpr (by omega)) ⟨rfl, rfl, trivial⟩ trivial rfl ?_ | refine al_v (opx_ia_own2 hko2 (by omega)) ⟨rfl, rfl, trivial⟩ ⟨rfl, trivial⟩ rfl ?_)) | (refine is_st ?_; refine al_stS rfl rfl rfl (by assumption) ?_) | refine al_nil ?_)) | (refine is_aw ?_; (first | refine aw_seq ?_ | refine aw_region ?_ | refine aw_skip ?_ | refine aw_block ?_ | (refine is_cond ?_; refine aw_cond_t rfl (by assumption) ?_))) | refine thn_n ?_)
    rw [take_set (z := []) hp rfl]
    exact ⟨k + 1, hlt, by omega, le_mk [0] rfl rfl rfl rfl ⟨rfl, rfl, rfl, trivial⟩ ⟨rfl, trivial⟩⟩
  · have hc : decide ((k : Int) < ((stRs ls).length : Int)) = false := decide_eq_false (by omega)
    repeat' (first | (refine is_al ?_; (first | (refine is_move ?_; (first | refine al_v (opx_move (.raw _)) ⟨rfl, trivial⟩ trivial rfl ?_ | refine al_v (opx_move (.sl _ _)) ⟨rfl, trivial⟩ trivial rfl ?_ | refine al_v (opx_move (.own _)) ⟨rfl, trivial⟩ trivial rfl ?_)) | (refine is_bin ?_; refine al_v opx_lss ⟨rfl, rfl, trivial⟩ trivial rfl ?_) | (refine is_assign ?_; refine al_v (opx_assign (.own _)) ⟨rfl, trivial⟩ trivial rfl ?_) | (refine is_bi ?_; refine al_v opx_len_sl ⟨rfl, trivial⟩ trivial rfl ?_) | refine al_nil ?_)) | (refine is_aw ?_; (first | refine aw_seq ?_ | refine aw_region ?_ | refine aw_ret ?_ | refine aw_exit ?_ | (refine is_cond ?_; refine aw_cond_f rfl (by assumption) ?_))))
    exact ret_row trivial rfl rfl ⟨rfl, by rw [show k = ls.length by omega]; simp⟩
theorem c_eqStringS (a b : List Str) (hL : a.length ≤ 2000000) : Con Try.prog 11 [slS a, slS b] [] (fun rs all => rs = [rB (decide (a = b))] ∧ all = []) := by
  have hla := stRs_len (xs := a)
  have hlb := stRs_len (xs := b)
  refine con_of_aw (vars := [.tmp 4]) [(0, .r (slS a)), (1, .r (slS b))] [] 0 Try.func11 (by kernel_rfl) rfl Try.ntmps11 rfl (by decide) rfl rfl rfl rfl rfl ?_; intro B M w0 ρ0 Z0
  repeat' (first | (refine is_al ?_; (first | (refine is_move ?_; refine al_v (opx_move (.sl _ _)) ⟨rfl, trivial⟩ trivial rfl ?_) | (refine is_bin ?_; refine al_v opx_neq ⟨rfl, rfl, trivial⟩ trivial rfl ?_) | (refine is_assign ?_; refine al_v (opx_assign (.raw _)) ⟨rfl, trivial⟩ trivial rfl ?_) | (refine is_bi ?_; refine al_v opx_len_sl ⟨rfl, trivial⟩ trivial rfl ?_) | refine al_nil ?_)) | (refine is_aw ?_; (first | refine aw_seq ?_ | refine aw_region ?_ | refine aw_skip ?_ | refine aw_block ?_ | refine aw_ret ?_ | (refine is_cond ?_; (refine aw_cond rfl ?_ ?_ <;> ((intro hgd; try exact absurd hgd (by decide)); (try (have hz := hgd; simp only [decide_eq_true_eq, decide_eq_false_iff_not, Bool.not_eq_true', Bool.not_eq_false', Bool.not_true, Bool.not_false, beq_iff_eq, Int.not_le, Int.not_lt] at hz)); (try (exfalso; omega))))))) | refine thn_r ?_)
  · exact ret_raw trivial rfl ⟨congrArg (fun b => [rB b]) ((decide_eq_false (fun h => by subst h; omega)).symm), rfl⟩
  have hl : b.length = a.length := by omega
  refine aw_loop (γ := Nat) (fun k => [(0, .r (slS a)), (1, .r (slS b)), (4, .b false), (5, .i (k : Int))]) (fun _ => []) (fun _ => 0) (fun k => k ≤ a.length ∧ alike a b k) (fun k => a.length - k) 0 ⟨Nat.zero_le _, fun j hj => by omega⟩ (le_mk [] rfl rfl rfl rfl ⟨rfl, rfl, rfl, rfl, trivial⟩ trivial) ?_
  rintro k ⟨hk, hok⟩
  rcases Nat.lt_or_ge k a.length with hlt | hge
  · have hc : decide ((k : Int) < ((stRs a).length : Int)) = true := decide_eq_true (by omega)
    obtain ⟨x, hx⟩ : ∃ x, a[k]? = some x := ⟨_, List.getElem?_eq_getElem hlt⟩
    obtain ⟨y, hy⟩ : ∃ y, b[k]? = some y := ⟨_, List.getElem?_eq_getElem (by omega)⟩
    have hxr := stRs_at hx
    have hyr := stRs_at hy
    by_cases he : x = y
    · have hd : (!decide (x = y)) = false := by rw [decide_eq_true he]; rfl
      repeat' (first | (refine is_al ?_; (first | (refine is_move ?_; (first | refine al_v (opx_move (.raw _)) ⟨rfl, trivial⟩ trivial rfl ?_ | refine al_v (opx_move (.sl _ _)) ⟨rfl, trivial⟩ trivial rfl ?_)) | (refine is_bin ?_; (first | refine al_v opx_lss ⟨rfl, rfl, trivial⟩ trivial rfl ?_ | refine al_v (opx_add (by unfold InR; omega)) ⟨rfl, rfl, trivial⟩ trivial rfl ?_)) | (refine is_assign ?_; refine al_v (opx_assign (.raw _)) ⟨rfl, trivial⟩ trivial rfl ?_) | (refine is_bi ?_; refine al_v opx_len_sl ⟨rfl, trivial⟩ trivial rfl ?_) | refine al_nil ?_)) | (refine is_ad ?_; (first | (refine isd_move ?_; (first | refine ad_v (opx_move (.raw _)) ⟨rfl, trivial⟩ trivial rfl ?_ | refine ad_v (opx_move (.sl _ _)) ⟨rfl, trivial⟩ trivial rfl ?_)) | (refine isd_bin ?_; refine ad_v opx_sneq ⟨rfl, rfl, trivial⟩ trivial rfl ?_) | (refine isd_load ?_; refine ad_v opx_ld_imm ⟨rfl, trivial⟩ trivial rfl ?_) | (refine isd_ia ?_; (first | refine ad_v (opx_ia_sl2 hxr (by omega)) ⟨rfl, rfl, trivial⟩ trivial rfl ?_ | refine ad_v (opx_ia_sl2 hyr (by omega)) ⟨rfl, rfl, trivial⟩ trivial rfl ?_)) | refine ad_nil (by kernel_rfl) ?_)) | (refine is_aw ?_; (first | refine aw_seq ?_ | refine aw_region ?_ | refine aw_skip ?_ | refine aw_block ?_ | (refine is_cond ?_; (first | refine aw_cond_t rfl (by assumption) ?_ | refine aw_cond_f rfl (by assumption) ?_)) | refine aw_draw mixed ?_)) | refine thn_n ?_)
      exact ⟨k + 1, ⟨hlt, alike_next hok hx (he ▸ hy)⟩, by omega, le_mk [] rfl rfl rfl rfl ⟨rfl, rfl, rfl, rfl, trivial⟩ trivial⟩
    · have hd : (!decide (x = y)) = true := by rw [decide_eq_false he]; rfl
      repeat' (first | (refine is_al ?_; (first | (refine is_move ?_; (first | refine al_v (opx_move (.raw _)) ⟨rfl, trivial⟩ trivial rfl ?_ | refine al_v (opx_move (.sl _ _)) ⟨rfl, trivial⟩ trivial rfl ?_)) | (refine is_bin ?_; refine al_v opx_lss ⟨rfl, rfl, trivial⟩ trivial rfl ?_) | (refine is_assign ?_; refine al_v (opx_assign (.raw _)) ⟨rfl, trivial⟩ trivial rfl ?_) | (refine is_bi ?_; refine al_v opx_len_sl ⟨rfl, trivial⟩ trivial rfl ?_) | refine al_nil ?_)) | (refine is_ad ?_; (first | (refine isd_move ?_; (first | refine ad_v (opx_move (.raw _)) ⟨rfl, trivial⟩ trivial rfl ?_ | refine ad_v (opx_move (.sl _ _)) ⟨rfl, trivial⟩ trivial rfl ?_)) | (refine isd_bin ?_; refine ad_v opx_sneq ⟨rfl, rfl, trivial⟩ trivial rfl ?_) | (refine isd_load ?_; refine ad_v opx_ld_imm ⟨rfl, trivial⟩ trivial rfl ?_) | (refine isd_ia ?_; (first | refine ad_v (opx_ia_sl2 hxr (by omega)) ⟨rfl, rfl, trivial⟩ trivial rfl ?_ | refine ad_v (opx_ia_sl2 hyr (by omega)) ⟨rfl, rfl, trivial⟩ trivial rfl ?_)) | refine ad_nil (by kernel_rfl) ?_)) | (refine is_aw ?_; (first | refine aw_seq ?_ | refine aw_region ?_ | refine aw_skip ?_ | refine aw_block ?_ | refine aw_ret ?_ | (refine is_cond ?_; refine aw_cond_t rfl (by assumption) ?_) | refine aw_draw mixed ?_)) | refine thn_r ?_ | refine inb_r ?_)
      exact ret_raw trivial rfl ⟨congrArg (fun b => [rB b]) ((decide_eq_false (not_alike hx hy he)).symm), rfl⟩
  · have hc : decide ((k : Int) < ((stRs a).length : Int)) = false := decide_eq_false (by omega)
    repeat' (first | (refine is_al ?_; (first | (refine is_move ?_; (first | refine al_v (opx_move (.raw _)) ⟨rfl, trivial⟩ trivial rfl ?_ | refine al_v (opx_move (.sl _ _)) ⟨rfl, trivial⟩ trivial rfl ?_)) | (refine is_bin ?_; refine al_v opx_lss ⟨rfl, rfl, trivial⟩ trivial rfl ?_) | (refine is_assign ?_; refine al_v (opx_assign (.raw _)) ⟨rfl, trivial⟩ trivial rfl ?_) | (refine is_bi ?_; refine al_v opx_len_sl ⟨rfl, trivial⟩ trivial rfl ?_) | refine al_nil ?_)) | (refine is_aw ?_; (first | refine aw_seq ?_ | refine aw_region ?_ | refine aw_ret ?_ | refine aw_exit ?_ | (refine is_cond ?_; refine aw_cond_f rfl (by assumption) ?_))))
    exact ret_raw trivial rfl ⟨congrArg (fun b => [rB b]) ((decide_eq_true (alike_all hok hl hge)).symm), rfl⟩
end Go.Proofs.Ytokhfcfnhgianaa
/-
  Samples: sizes, comparison, what is held.
-/
namespace Go.Proofs.Ytokhfcfnhgianaa
open Go.RowKit
set_option linter.unusedVariables false
set_option linter.unusedSimpArgs false
attribute [local irreducible] AL AW OpX Le AD

def szMs (left : Int) : List Sm → Int
  | [] => left
  | s :: r => if szT left s.1 < 0 then -1 else szMs (szT left s.1) r
def szM (left : Int) (l : List Sm) : Int := if left - (l.length : Int) < 0 then -1 else szMs (left - (l.length : Int)) l
theorem szLs_dn : ∀ {l : List Lb} {left : Int}, ¬ szLs left l < 0 → szLs left l ≤ left
  | [], left, _ => Int.le_refl _
  | y :: r, left, h => by
    simp only [szLs] at h ⊢
    split at h
    · omega
    · rename_i h1
      rw [if_neg h1]
      have h2 := szLs_dn h
      have h3 := (szB_le h1).2.2
      omega
theorem szT_dn {left : Int} {l : List Lb} (h : ¬ szT left l < 0) : szT left l ≤ left := by
  unfold szT at h ⊢
  split at h
  · omega
  · rename_i h1
    rw [if_neg h1]
    have := szLs_dn h
    omega
theorem szMs_le : ∀ {l : List Sm} {left : Int}, 0 ≤ left → ¬ szMs left l < 0 → ∀ s ∈ l, (s.1.length : Int) ≤ left ∧ ∀ x ∈ s.1, (x.1.length : Int) ≤ left ∧ (x.2.length : Int) ≤ left
  | [], left, _, _, x, hx => by cases hx
  | y :: r, left, h0, h, s, hs => by
    simp only [szMs] at h
    split at h
    · omega
    · rename_i h1
      have h2 := szT_le h1 h0
      rcases List.mem_cons.1 hs with rfl | hs
      · exact h2
      · have h3 := szT_dn h1
        obtain ⟨c1, c2⟩ := szMs_le (by omega) h s hs
        exact ⟨by omega, fun x hx => by have := c2 x hx; omega⟩
theorem szMs_dn : ∀ {l : List Sm} {left : Int}, ¬ szMs left l < 0 → szMs left l ≤ left
  | [], left, _ => Int.le_refl _
  | y :: r, left, h => by
    simp only [szMs] at h ⊢
    split at h
    · omega
    · rename_i h1
      rw [if_neg h1]
      have h2 := szMs_dn h
      have h3 := szT_dn h1
      omega
theorem szM_le {left : Int} {l : List Sm} (h : ¬ szM left l < 0) : (l.length : Int) ≤ left ∧ (∀ s ∈ l, (s.1.length : Int) ≤ left ∧ ∀ x ∈ s.1, (x.1.length : Int) ≤ left ∧ (x.2.length : Int) ≤ left) ∧ szM left l ≤ left := by
  unfold szM at h ⊢
  split at h
  · omega
  · rename_i h1
    rw [if_neg h1]
    refine ⟨by omega, fun s hs => ?_, by have := szMs_dn h; omega⟩
    obtain ⟨c1, c2⟩ := szMs_le (by omega) h s hs
    exact ⟨by omega, fun x hx => by have := c2 x hx; omega⟩
/-- What a sample's parts may be (as data can be). -/
def smAny (l : List Sm) : Prop := ∀ s ∈ l, s.1.length ≤ 9223372036854775807 ∧ (∀ x ∈ s.1, x.1.length ≤ 9223372036854775807 ∧ x.2.length ≤ 9223372036854775807)
theorem c_szSample (s : Sm) (left : Int) (hl : 0 ≤ left ∧ left ≤ 1048576) (h1 : s.1.length ≤ 9223372036854775807) (h2 : ∀ x ∈ s.1, x.1.length ≤ 9223372036854775807 ∧ x.2.length ≤ 9223372036854775807) : Con Try.prog 15 [smA s, rI left] [] (fun rs all => rs = [rI (szT left s.1)] ∧ all = []) := by
  refine con_of_aw (vars := [.tmp 4]) [(0, .r (smA s)), (1, .r (rI left))] [] 0 Try.func15 (by kernel_rfl) rfl Try.ntmps15 rfl (by decide) rfl rfl rfl rfl rfl ?_; intro B M w0 ρ0 Z0
  have hcs := c_szLabelS s.1 left hl h1 h2
  by_cases g1 : szT left s.1 < 0
  · have d1 : decide (szT left s.1 < 0) = true := decide_eq_true g1
    have e : szT left s.1 = -1 := by
      have h3 : ∀ (l : List Lb) (v : Int), szLs v l < 0 → 0 ≤ v → szLs v l = -1 := by
        intro l
        induction l with
        | nil => intro v h1 h2; simp only [szLs] at h1; omega
        | cons y r ih =>
          intro v h1 h2
          simp only [szLs] at h1 ⊢
          split at h1
          · rename_i h4; rw [if_pos h4]
          · rename_i h4; rw [if_neg h4]; exact ih _ h1 (by omega)
      unfold szT at g1 ⊢
      split at g1
      · rename_i h4; rw [if_pos h4]
      · rename_i h4; rw [if_neg h4]; exact h3 _ _ g1 (by omega)
    repeat' (first | (refine is_al ?_; (first | (refine is_move ?_; refine al_v (opx_move (.raw _)) ⟨rfl, trivial⟩ trivial rfl ?_) | (refine is_bin ?_; refine al_v opx_lss ⟨rfl, rfl, trivial⟩ trivial rfl ?_) | (refine is_load ?_; refine al_v (opx_ld_box rfl) ⟨rfl, trivial⟩ ⟨rfl, trivial⟩ rfl ?_) | (refine is_fa ?_; refine al_v opx_fa_ref ⟨rfl, trivial⟩ trivial rfl ?_) | (refine is_assign ?_; refine al_v (opx_assign (.raw _)) ⟨rfl, trivial⟩ trivial rfl ?_) | (refine is_call ?_; refine al_callv2 (by (repeat (first | exact .nil | refine .one rfl rfl ?_ | refine .froz rfl rfl ?_ | refine .row rfl rfl ?_ | refine .rnil rfl ?_ | refine .agg rfl (by (repeat (first | exact .nil | refine .cons (.same rfl) ?_ | refine .cons (.froz rfl) ?_ | refine .cons (.rnil) ?_ | refine .cons (.row rfl rfl) ?_)); (first | done | fail)) ?_)); (first | done | fail)) rfl (hcs) rfl ?_) | refine al_n opx_boxs ⟨rfl, trivial⟩ trivial rfl ?_ | refine al_nil ?_)) | (refine is_aw ?_; (first | refine aw_seq ?_ | refine aw_region ?_ | refine aw_ret ?_ | (refine is_cond ?_; refine aw_cond_t rfl (by assumption) ?_))) | refine thn_r ?_)
    exact ret_raw trivial rfl ⟨by rw [e], rfl⟩
  · have d1 : decide (szT left s.1 < 0) = false := decide_eq_false g1
    repeat' (first | (refine is_al ?_; (first | (refine is_move ?_; refine al_v (opx_move (.raw _)) ⟨rfl, trivial⟩ trivial rfl ?_) | (refine is_bin ?_; refine al_v opx_lss ⟨rfl, rfl, trivial⟩ trivial rfl ?_) | (refine is_load ?_; refine al_v (opx_ld_box rfl) ⟨rfl, trivial⟩ ⟨rfl, trivial⟩ rfl ?_) | (refine is_fa ?_; refine al_v opx_fa_ref ⟨rfl, trivial⟩ trivial rfl ?_) | (refine is_assign ?_; refine al_v (opx_assign (.raw _)) ⟨rfl, trivial⟩ trivial rfl ?_) | (refine is_call ?_; refine al_callv2 (by (repeat (first | exact .nil | refine .one rfl rfl ?_ | refine .froz rfl rfl ?_ | refine .row rfl rfl ?_ | refine .rnil rfl ?_ | refine .agg rfl (by (repeat (first | exact .nil | refine .cons (.same rfl) ?_ | refine .cons (.froz rfl) ?_ | refine .cons (.rnil) ?_ | refine .cons (.row rfl rfl) ?_)); (first | done | fail)) ?_)); (first | done | fail)) rfl (hcs) rfl ?_) | refine al_n opx_boxs ⟨rfl, trivial⟩ trivial rfl ?_ | refine al_nil ?_)) | (refine is_aw ?_; (first | refine aw_seq ?_ | refine aw_region ?_ | refine aw_skip ?_ | refine aw_ret ?_ | (refine is_cond ?_; refine aw_cond_f rfl (by assumption) ?_))))
    exact ret_raw trivial rfl ⟨rfl, rfl⟩
theorem c_szSampleS (l : List Sm) (left : Int) (hl : 0 ≤ left ∧ left ≤ 1048576) (hL : l.length ≤ 9223372036854775807) (hs : smAny l) : Con Try.prog 4 [slM l, rI left] [] (fun rs all => rs = [rI (szM left l)] ∧ all = []) := by
  have hlr := smRs_len (xs := l)
  refine con_of_aw (vars := [.tmp 4]) [(0, .r (slM l)), (1, .r (rI left))] [] 0 Try.func4 (by kernel_rfl) rfl Try.ntmps4 rfl (by decide) rfl rfl rfl rfl rfl ?_; intro B M w0 ρ0 Z0
  by_cases a1 : left - ((smRs l).length : Int) < 0
  · have d1 : decide (left - ((smRs l).length : Int) < 0) = true := decide_eq_true a1
    have e : szM left l = -1 := by rw [szM, if_pos (by omega)]
    repeat' (first | (refine is_al ?_; (first | (refine is_move ?_; (first | refine al_v (opx_move (.raw _)) ⟨rfl, trivial⟩ trivial rfl ?_ | refine al_v (opx_move (.sl _ _)) ⟨rfl, trivial⟩ trivial rfl ?_)) | (refine is_bin ?_; (first | refine al_v opx_lss ⟨rfl, rfl, trivial⟩ trivial rfl ?_ | refine al_v (opx_sub (by unfold InR; omega)) ⟨rfl, rfl, trivial⟩ trivial rfl ?_)) | (refine is_assign ?_; refine al_v (opx_assign (.raw _)) ⟨rfl, trivial⟩ trivial rfl ?_) | (refine is_bi ?_; refine al_v opx_len_sl ⟨rfl, trivial⟩ trivial rfl ?_) | refine al_nil ?_)) | (refine is_aw ?_; (first | refine aw_seq ?_ | refine aw_region ?_ | refine aw_ret ?_ | (refine is_cond ?_; refine aw_cond_t rfl (by assumption) ?_))) | refine thn_r ?_)
    exact ret_raw trivial rfl ⟨by rw [e], rfl⟩
  · have d1 : decide (left - ((smRs l).length : Int) < 0) = false := decide_eq_false a1
    have e : szM left l = szMs (left - (l.length : Int)) l := by rw [szM, if_neg (by omega)]
    repeat' (first | (refine is_al ?_; (first | (refine is_move ?_; (first | refine al_v (opx_move (.raw _)) ⟨rfl, trivial⟩ trivial rfl ?_ | refine al_v (opx_move (.sl _ _)) ⟨rfl, trivial⟩ trivial rfl ?_)) | (refine is_bin ?_; (first | refine al_v opx_lss ⟨rfl, rfl, trivial⟩ trivial rfl ?_ | refine al_v (opx_sub (by unfold InR; omega)) ⟨rfl, rfl, trivial⟩ trivial rfl ?_)) | (refine is_assign ?_; refine al_v (opx_assign (.raw _)) ⟨rfl, trivial⟩ trivial rfl ?_) | (refine is_bi ?_; refine al_v opx_len_sl ⟨rfl, trivial⟩ trivial rfl ?_) | refine al_nil ?_)) | (refine is_aw ?_; (first | refine aw_seq ?_ | refine aw_region ?_ | refine aw_skip ?_ | refine aw_block ?_ | (refine is_cond ?_; refine aw_cond_f rfl (by assumption) ?_))))
    refine aw_loop (γ := Nat × Int) (fun g => [(0, .r (slM l)), (1, .i g.2), (5, .i (g.1 : Int))]) (fun _ => []) (fun _ => 0)
      (fun g => g.1 ≤ l.length ∧ 0 ≤ g.2 ∧ g.2 ≤ 1048576 ∧ szMs g.2 (l.drop g.1) = szM left l) (fun g => l.length - g.1) (0, left - (l.length : Int)) ⟨Nat.zero_le _, by dsimp only; omega, by dsimp only; omega, e.symm⟩ (le_mk [] rfl rfl rfl rfl ⟨rfl, by rw [hlr]; rfl, rfl, trivial⟩ trivial) ?_
    rintro ⟨k, v⟩ ⟨h1, h2, h3, h4⟩
    dsimp only at h1 h2 h3 h4 ⊢
    rcases Nat.lt_or_ge k l.length with hlt | hge
    · have hc1 : decide ((k : Int) < ((smRs l).length : Int)) = true := decide_eq_true (by omega)
      obtain ⟨x, hx⟩ : ∃ x, l[k]? = some x := ⟨_, List.getElem?_eq_getElem hlt⟩
      have hxr := smRs_at hx
      obtain ⟨b1, b2⟩ := hs x (List.mem_of_getElem? hx)
      have hdr : l.drop k = x :: l.drop (k + 1) := by
        obtain ⟨_, rfl⟩ := List.getElem?_eq_some_iff.1 hx
        exact List.drop_eq_getElem_cons hlt
      rw [hdr] at h4
      simp only [szMs] at h4
      by_cases g1 : szT v x.1 < 0
      · have d2 : decide (szT v x.1 < 0) = true := decide_eq_true g1
        rw [if_pos g1] at h4
        repeat' (first | (refine is_al ?_; (first | (refine is_move ?_; (first | refine al_v (opx_move (.raw _)) ⟨rfl, trivial⟩ trivial rfl ?_ | refine al_v (opx_move (.sl _ _)) ⟨rfl, trivial⟩ trivial rfl ?_)) | (refine is_bin ?_; refine al_v opx_lss ⟨rfl, rfl, trivial⟩ trivial rfl ?_) | (refine is_load ?_; refine al_v opx_ld2_imm ⟨rfl, trivial⟩ trivial rfl ?_) | (refine is_assign ?_; refine al_v (opx_assign (.raw _)) ⟨rfl, trivial⟩ trivial rfl ?_) | (refine is_bi ?_; refine al_v opx_len_sl ⟨rfl, trivial⟩ trivial rfl ?_) | (refine is_ia ?_; refine al_v (opx_ia_sl2 hxr (by omega)) ⟨rfl, rfl, trivial⟩ trivial rfl ?_) | (refine is_call ?_; refine al_callv2 (by (repeat (first | exact .nil | refine .one rfl rfl ?_ | refine .froz rfl rfl ?_ | refine .row rfl rfl ?_ | refine .rnil rfl ?_ | refine .agg rfl (by (repeat (first | exact .nil | refine .cons (.same rfl) ?_ | refine .cons (.froz rfl) ?_ | refine .cons (.rnil) ?_ | refine .cons (.row rfl rfl) ?_)); (first | done | fail)) ?_)); (first | done | fail)) rfl (c_szSample x v ⟨h2, h3⟩ b1 b2) rfl ?_) | refine al_nil ?_)) | (refine is_aw ?_; (first | refine aw_seq ?_ | refine aw_region ?_ | refine aw_skip ?_ | refine aw_block ?_ | refine aw_ret ?_ | (refine is_cond ?_; refine aw_cond_t rfl (by assumption) ?_))) | refine thn_r ?_ | refine inb_r ?_)
        exact ret_raw trivial rfl ⟨by rw [← h4], rfl⟩
      · have d2 : decide (szT v x.1 < 0) = false := decide_eq_false g1
        have g2 := szT_dn g1
        rw [if_neg g1] at h4
        repeat' (first | (refine is_al ?_; (first | (refine is_move ?_; (first | refine al_v (opx_move (.raw _)) ⟨rfl, trivial⟩ trivial rfl ?_ | refine al_v (opx_move (.sl _ _)) ⟨rfl, trivial⟩ trivial rfl ?_)) | (refine is_bin ?_; (first | refine al_v opx_lss ⟨rfl, rfl, trivial⟩ trivial rfl ?_ | refine al_v (opx_add (by unfold InR; omega)) ⟨rfl, rfl, trivial⟩ trivial rfl ?_)) | (refine is_load ?_; refine al_v opx_ld2_imm ⟨rfl, trivial⟩ trivial rfl ?_) | (refine is_assign ?_; refine al_v (opx_assign (.raw _)) ⟨rfl, trivial⟩ trivial rfl ?_) | (refine is_bi ?_; refine al_v opx_len_sl ⟨rfl, trivial⟩ trivial rfl ?_) | (refine is_ia ?_; refine al_v (opx_ia_sl2 hxr (by omega)) ⟨rfl, rfl, trivial⟩ trivial rfl ?_) | (refine is_call ?_; refine al_callv2 (by (repeat (first | exact .nil | refine .one rfl rfl ?_ | refine .froz rfl rfl ?_ | refine .row rfl rfl ?_ | refine .rnil rfl ?_ | refine .agg rfl (by (repeat (first | exact .nil | refine .cons (.same rfl) ?_ | refine .cons (.froz rfl) ?_ | refine .cons (.rnil) ?_ | refine .cons (.row rfl rfl) ?_)); (first | done | fail)) ?_)); (first | done | fail)) rfl (c_szSample x v ⟨h2, h3⟩ b1 b2) rfl ?_) | refine al_nil ?_)) | (refine is_aw ?_; (first | refine aw_seq ?_ | refine aw_region ?_ | refine aw_skip ?_ | refine aw_block ?_ | (refine is_cond ?_; (first | refine aw_cond_t rfl (by assumption) ?_ | refine aw_cond_f rfl (by assumption) ?_)))) | refine thn_n ?_)
        exact ⟨(k + 1, szT v x.1), ⟨hlt, by dsimp only; omega, by dsimp only; omega, h4⟩, by dsimp only; omega, le_mk [] rfl rfl rfl rfl ⟨rfl, rfl, rfl, trivial⟩ trivial⟩
    · have hc1 : decide ((k : Int) < ((smRs l).length : Int)) = false := decide_eq_false (by omega)
      rw [List.drop_of_length_le hge] at h4
      repeat' (first | (refine is_al ?_; (first | (refine is_move ?_; (first | refine al_v (opx_move (.raw _)) ⟨rfl, trivial⟩ trivial rfl ?_ | refine al_v (opx_move (.sl _ _)) ⟨rfl, trivial⟩ trivial rfl ?_)) | (refine is_bin ?_; refine al_v opx_lss ⟨rfl, rfl, trivial⟩ trivial rfl ?_) | (refine is_assign ?_; refine al_v (opx_assign (.raw _)) ⟨rfl, trivial⟩ trivial rfl ?_) | (refine is_bi ?_; refine al_v opx_len_sl ⟨rfl, trivial⟩ trivial rfl ?_) | refine al_nil ?_)) | (refine is_aw ?_; (first | refine aw_seq ?_ | refine aw_region ?_ | refine aw_ret ?_ | refine aw_exit ?_ | (refine is_cond ?_; refine aw_cond_f rfl (by assumption) ?_))))
      exact ret_raw trivial rfl ⟨by rw [← h4]; rfl, rfl⟩
theorem c_eqSample (s : Sm) (hs : s.1.length ≤ 2000000) : Con Try.prog 24 [smA s, smA s] [] (fun rs all => rs = [rB true] ∧ all = []) := by
  have n1 : (!true) = false := rfl
  have n2 : (!decide (s.2 = s.2)) = false := by rw [eqD]; rfl
  refine con_of_aw (vars := [.tmp 4]) [(0, .r (smA s)), (1, .r (smA s))] [] 0 Try.func24 (by kernel_rfl) rfl Try.ntmps24 rfl (by decide) rfl rfl rfl rfl rfl ?_; intro B M w0 ρ0 Z0
  repeat' (first | (refine is_al ?_; (first | (refine is_bin ?_; refine al_v opx_neq ⟨rfl, rfl, trivial⟩ trivial rfl ?_) | (refine is_load ?_; refine al_v (opx_ld_box rfl) ⟨rfl, trivial⟩ ⟨rfl, trivial⟩ rfl ?_) | (refine is_fa ?_; refine al_v opx_fa_ref ⟨rfl, trivial⟩ trivial rfl ?_) | (refine is_assign ?_; refine al_v (opx_assign (.raw _)) ⟨rfl, trivial⟩ trivial rfl ?_) | (refine is_call ?_; refine al_callv2 (by (repeat (first | exact .nil | refine .one rfl rfl ?_ | refine .froz rfl rfl ?_ | refine .row rfl rfl ?_ | refine .rnil rfl ?_ | refine .agg rfl (by (repeat (first | exact .nil | refine .cons (.same rfl) ?_ | refine .cons (.froz rfl) ?_ | refine .cons (.rnil) ?_ | refine .cons (.row rfl rfl) ?_)); (first | done | fail)) ?_)); (first | done | fail)) rfl (c_eqLabelS s.1 hs) rfl ?_) | refine al_v opx_not ⟨rfl, trivial⟩ trivial rfl ?_ | refine al_n opx_boxs ⟨rfl, trivial⟩ trivial rfl ?_ | refine al_nil ?_)) | (refine is_aw ?_; (first | refine aw_seq ?_ | refine aw_region ?_ | refine aw_skip ?_ | refine aw_ret ?_ | (refine is_cond ?_; (first | refine aw_cond_f rfl rfl ?_ | refine aw_cond_f rfl (by assumption) ?_)))))
  exact ret_raw trivial rfl ⟨congrArg (fun b => [rB b]) (rfl), rfl⟩
theorem c_eqSampleS (l : List Sm) (hL : l.length ≤ 2000000) (hs : ∀ s ∈ l, s.1.length ≤ 2000000) : Con Try.prog 10 [slM l, slM l] [] (fun rs all => rs = [rB true] ∧ all = []) := by
  have hla := smRs_len (xs := l)
  refine con_of_aw (vars := [.tmp 4]) [(0, .r (slM l)), (1, .r (slM l))] [] 0 Try.func10 (by kernel_rfl) rfl Try.ntmps10 rfl (by decide) rfl rfl rfl rfl rfl ?_; intro B M w0 ρ0 Z0
  have n0 : (!decide (((smRs l).length : Int) = ((smRs l).length : Int))) = false := neD _
  have n1 : (!true) = false := rfl
  repeat' (first | (refine is_al ?_; (first | (refine is_move ?_; refine al_v (opx_move (.sl _ _)) ⟨rfl, trivial⟩ trivial rfl ?_) | (refine is_bin ?_; refine al_v opx_neq ⟨rfl, rfl, trivial⟩ trivial rfl ?_) | (refine is_assign ?_; refine al_v (opx_assign (.raw _)) ⟨rfl, trivial⟩ trivial rfl ?_) | (refine is_bi ?_; refine al_v opx_len_sl ⟨rfl, trivial⟩ trivial rfl ?_) | refine al_nil ?_)) | (refine is_aw ?_; (first | refine aw_seq ?_ | refine aw_region ?_ | refine aw_skip ?_ | refine aw_block ?_ | (refine is_cond ?_; refine aw_cond_f rfl (by assumption) ?_))))
  refine aw_loop (γ := Nat) (fun k => [(0, .r (slM l)), (1, .r (slM l)), (4, .b false), (5, .i (k : Int))]) (fun _ => []) (fun _ => 0) (fun k => k ≤ l.length) (fun k => l.length - k) 0 (Nat.zero_le _) (le_mk [] rfl rfl rfl rfl ⟨rfl, rfl, rfl, rfl, trivial⟩ trivial) ?_
  intro k hk
  rcases Nat.lt_or_ge k l.length with hlt | hge
  · have hc : decide ((k : Int) < ((smRs l).length : Int)) = true := decide_eq_true (by omega)
    obtain ⟨x, hx⟩ : ∃ x, l[k]? = some x := ⟨_, List.getElem?_eq_getElem hlt⟩
    have hxr := smRs_at hx
    have hx1 := hs x (List.mem_of_getElem? hx)
    repeat' (first | (refine is_al ?_; (first | (refine is_move ?_; (first | refine al_v (opx_move (.raw _)) ⟨rfl, trivial⟩ trivial rfl ?_ | refine al_v (opx_move (.sl _ _)) ⟨rfl, trivial⟩ trivial rfl ?_)) | (refine is_bin ?_; (first | refine al_v opx_lss ⟨rfl, rfl, trivial⟩ trivial rfl ?_ | refine al_v (opx_add (by unfold InR; omega)) ⟨rfl, rfl, trivial⟩ trivial rfl ?_)) | (refine is_assign ?_; refine al_v (opx_assign (.raw _)) ⟨rfl, trivial⟩ trivial rfl ?_) | (refine is_bi ?_; refine al_v opx_len_sl ⟨rfl, trivial⟩ trivial rfl ?_) | refine al_nil ?_)) | (refine is_ad ?_; (first | (refine isd_move ?_; (first | refine ad_v (opx_move (.raw _)) ⟨rfl, trivial⟩ trivial rfl ?_ | refine ad_v (opx_move (.sl _ _)) ⟨rfl, trivial⟩ trivial rfl ?_)) | (refine isd_load ?_; refine ad_v opx_ld2_imm ⟨rfl, trivial⟩ trivial rfl ?_) | (refine isd_ia ?_; refine ad_v (opx_ia_sl2 hxr (by omega)) ⟨rfl, rfl, trivial⟩ trivial rfl ?_) | (refine isd_call ?_; refine ad_callv2 (by (repeat (first | exact .nil | refine .one rfl rfl ?_ | refine .froz rfl rfl ?_ | refine .row rfl rfl ?_ | refine .rnil rfl ?_ | refine .agg rfl (by (repeat (first | exact .nil | refine .cons (.same rfl) ?_ | refine .cons (.froz rfl) ?_ | refine .cons (.rnil) ?_ | refine .cons (.row rfl rfl) ?_)); (first | done | fail)) ?_)); (first | done | fail)) rfl (c_eqSample x hx1) rfl ?_) | refine ad_v opx_not ⟨rfl, trivial⟩ trivial rfl ?_ | refine ad_nil (by kernel_rfl) ?_)) | (refine is_aw ?_; (first | refine aw_seq ?_ | refine aw_region ?_ | refine aw_skip ?_ | refine aw_block ?_ | (refine is_cond ?_; (first | refine aw_cond_f rfl rfl ?_ | refine aw_cond_t rfl (by assumption) ?_)) | refine aw_draw mixed ?_)) | refine thn_n ?_)
    exact ⟨k + 1, hlt, by omega, le_mk [] rfl rfl rfl rfl ⟨rfl, rfl, rfl, rfl, trivial⟩ trivial⟩
  · have hc : decide ((k : Int) < ((smRs l).length : Int)) = false := decide_eq_false (by omega)
    repeat' (first | (refine is_al ?_; (first | (refine is_move ?_; (first | refine al_v (opx_move (.raw _)) ⟨rfl, trivial⟩ trivial rfl ?_ | refine al_v (opx_move (.sl _ _)) ⟨rfl, trivial⟩ trivial rfl ?_)) | (refine is_bin ?_; refine al_v opx_lss ⟨rfl, rfl, trivial⟩ trivial rfl ?_) | (refine is_assign ?_; refine al_v (opx_assign (.raw _)) ⟨rfl, trivial⟩ trivial rfl ?_) | (refine is_bi ?_; refine al_v opx_len_sl ⟨rfl, trivial⟩ trivial rfl ?_) | refine al_nil ?_)) | (refine is_aw ?_; (first | refine aw_seq ?_ | refine aw_region ?_ | refine aw_ret ?_ | refine aw_exit ?_ | (refine is_cond ?_; refine aw_cond_f rfl (by assumption) ?_))))
    exact ret_raw trivial rfl ⟨congrArg (fun b => [rB b]) (rfl), rfl⟩
/-- The mark behind those of n samples with so many labels. -/
def mkE (k : Int) : List Nat → Int
  | [] => k
  | n :: r => mkE (k + 2 * (n : Int) + 1) r
def mkS (k : Int) : List Nat → List Sm
  | [] => []
  | n :: r => (mkL k n, k + 2 * (n : Int)) :: mkS (k + 2 * (n : Int) + 1) r
theorem mkS_len : ∀ {ns : List Nat} {k : Int}, (mkS k ns).length = ns.length
  | [], _ => rfl
  | n :: r, k => by simp [mkS, mkS_len]
theorem mkE_ge : ∀ {ns : List Nat} {k : Int}, k + (ns.length : Int) ≤ mkE k ns
  | [], k => by simp [mkE]
  | n :: r, k => by
    have := mkE_ge (ns := r) (k := k + 2 * (n : Int) + 1)
    simp only [mkE, List.length_cons]
    omega
theorem mkE_take : ∀ {ns : List Nat} {k : Int} {j n : Nat}, ns[j]? = some n → mkE k (ns.take (j + 1)) = mkE k (ns.take j) + 2 * (n : Int) + 1
  | [], _, _, _, h => by simp at h
  | m :: r, k, 0, n, h => by simp at h; subst h; simp [mkE]
  | m :: r, k, j + 1, n, h => by
    simp only [List.getElem?_cons_succ] at h
    simp only [List.take_succ_cons, mkE]
    exact mkE_take h
theorem mkS_at : ∀ {ns : List Nat} {k : Int} {j n : Nat}, ns[j]? = some n → (mkS k ns)[j]? = some (mkL (mkE k (ns.take j)) n, mkE k (ns.take j) + 2 * (n : Int))
  | [], _, _, _, h => by simp at h
  | m :: r, k, 0, n, h => by simp at h; subst h; simp [mkS, mkE]
  | m :: r, k, j + 1, n, h => by
    simp only [List.getElem?_cons_succ] at h
    simp only [List.take_succ_cons, mkE, mkS, List.getElem?_cons_succ]
    exact mkS_at h
theorem mkE_le : ∀ {ns : List Nat} {k : Int}, (∀ n ∈ ns, n ≤ 2000000) → mkE k ns ≤ k + 4000001 * (ns.length : Int)
  | [], k, _ => by simp [mkE]
  | n :: r, k, h => by
    have h1 := h n (.head _)
    have := mkE_le (ns := r) (k := k + 2 * (n : Int) + 1) (fun m hm => h m (.tail _ hm))
    simp only [mkE, List.length_cons]
    omega
theorem mkE_mono : ∀ {ns : List Nat} {k : Int} (j : Nat), k ≤ mkE k (ns.take j) := fun {ns k} j => by
  have := mkE_ge (ns := ns.take j) (k := k)
  omega
theorem c_heldSampleS (k : Int) (ns : List Nat) (hk : 1 ≤ k ∧ k ≤ 1000000) (hL : ns.length ≤ 1000) (hn : ∀ n ∈ ns, n ≤ 2000000) : Con Try.prog 14 [slM (mkS k ns), rI k] [] (fun rs all => rs = [rI (mkE k ns)] ∧ all = []) := by
  have hlen := smRs_len (xs := mkS k ns)
  rw [mkS_len] at hlen
  refine con_of_aw (vars := [.tmp 4]) [(0, .r (slM (mkS k ns))), (1, .r (rI k))] [] 0 Try.func14 (by kernel_rfl) rfl Try.ntmps14 rfl (by decide) rfl rfl rfl rfl rfl ?_; intro B M w0 ρ0 Z0
  repeat' (first | (refine is_al ?_; (first | (refine is_assign ?_; refine al_v (opx_assign (.raw _)) ⟨rfl, trivial⟩ trivial rfl ?_) | refine al_nil ?_)) | (refine is_aw ?_; (first | refine aw_seq ?_ | refine aw_region ?_ | refine aw_block ?_)))
  refine aw_loop (γ := Nat) (fun j => [(0, .r (slM (mkS k ns))), (1, .i (mkE k (ns.take j))), (5, .i (j : Int))]) (fun _ => []) (fun _ => 0) (fun j => j ≤ ns.length) (fun j => ns.length - j) 0 (Nat.zero_le _) (le_mk [] rfl rfl rfl rfl ⟨rfl, rfl, rfl, trivial⟩ trivial) ?_
  intro j hj
  have hm1 := mkE_mono (ns := ns) (k := k) j
  have hm2 : mkE k (ns.take j) ≤ k + 4000001 * (((ns.take j).length : Nat) : Int) := mkE_le fun n h => hn n (List.mem_of_mem_take h)
  rw [List.length_take] at hm2
  rcases Nat.lt_or_ge j ns.length with hlt | hge
  · have hc : decide ((j : Int) < ((smRs (mkS k ns)).length : Int)) = true := decide_eq_true (by omega)
    obtain ⟨n, hnj⟩ : ∃ n, ns[j]? = some n := ⟨_, List.getElem?_eq_getElem hlt⟩
    have hxr := smRs_at (mkS_at (k := k) hnj)
    have hnb := hn n (List.mem_of_getElem? hnj)
    have hx := mkE_take (k := k) hnj
    generalize mkE k (ns.take j) = v at hm1 hm2 hxr hx ⊢
    have d1 : decide (v + 2 * (n : Int) < 0) = false := decide_eq_false (by omega)
    have d2 : (!decide (v + 2 * (n : Int) = v + 2 * (n : Int))) = false := by rw [eqD]; rfl
    repeat' (first | (refine is_al ?_; (first | (refine is_move ?_; (first | refine al_v (opx_move (.raw _)) ⟨rfl, trivial⟩ trivial rfl ?_ | refine al_v (opx_move (.sl _ _)) ⟨rfl, trivial⟩ trivial rfl ?_)) | (refine is_bin ?_; (first | refine al_v opx_neq ⟨rfl, rfl, trivial⟩ trivial rfl ?_ | refine al_v opx_lss ⟨rfl, rfl, trivial⟩ trivial rfl ?_ | refine al_v (opx_add (by unfold InR; omega)) ⟨rfl, rfl, trivial⟩ trivial rfl ?_)) | (refine is_load ?_; refine al_v opx_ld_imm ⟨rfl, trivial⟩ trivial rfl ?_) | (refine is_fa ?_; (first | refine al_v opx_fa_imm0 ⟨rfl, trivial⟩ trivial rfl ?_ | refine al_v opx_fa_imm1 ⟨rfl, trivial⟩ trivial rfl ?_)) | (refine is_assign ?_; refine al_v (opx_assign (.raw _)) ⟨rfl, trivial⟩ trivial rfl ?_) | (refine is_bi ?_; refine al_v opx_len_sl ⟨rfl, trivial⟩ trivial rfl ?_) | (refine is_ia ?_; refine al_v (opx_ia_sl2 hxr (by omega)) ⟨rfl, rfl, trivial⟩ trivial rfl ?_) | (refine is_call ?_; refine al_callv2 (by (repeat (first | exact .nil | refine .one rfl rfl ?_ | refine .froz rfl rfl ?_ | refine .row rfl rfl ?_ | refine .rnil rfl ?_ | refine .agg rfl (by (repeat (first | exact .nil | refine .cons (.same rfl) ?_ | refine .cons (.froz rfl) ?_ | refine .cons (.rnil) ?_ | refine .cons (.row rfl rfl) ?_)); (first | done | fail)) ?_)); (first | done | fail)) rfl (c_heldLabelS v n ⟨by omega, by omega⟩ (by omega)) rfl ?_) | refine al_nil ?_)) | (refine is_aw ?_; (first | refine aw_seq ?_ | refine aw_region ?_ | refine aw_skip ?_ | refine aw_block ?_ | (refine is_cond ?_; (first | refine aw_cond_t rfl (by assumption) ?_ | refine aw_cond_f rfl (by assumption) ?_)))) | refine thn_n ?_)
    exact ⟨j + 1, hlt, by omega, le_mk [] rfl rfl rfl rfl ⟨rfl, by rw [hx]; rfl, rfl, trivial⟩ trivial⟩
  · have hc : decide ((j : Int) < ((smRs (mkS k ns)).length : Int)) = false := decide_eq_false (by omega)
    rw [List.take_of_length_le hge]
    repeat' (first | (refine is_al ?_; (first | (refine is_move ?_; (first | refine al_v (opx_move (.raw _)) ⟨rfl, trivial⟩ trivial rfl ?_ | refine al_v (opx_move (.sl _ _)) ⟨rfl, trivial⟩ trivial rfl ?_)) | (refine is_bin ?_; refine al_v opx_lss ⟨rfl, rfl, trivial⟩ trivial rfl ?_) | (refine is_assign ?_; refine al_v (opx_assign (.raw _)) ⟨rfl, trivial⟩ trivial rfl ?_) | (refine is_bi ?_; refine al_v opx_len_sl ⟨rfl, trivial⟩ trivial rfl ?_) | refine al_nil ?_)) | (refine is_aw ?_; (first | refine aw_seq ?_ | refine aw_region ?_ | refine aw_ret ?_ | refine aw_exit ?_ | (refine is_cond ?_; refine aw_cond_f rfl (by assumption) ?_))))
    exact ret_raw trivial rfl ⟨rfl, rfl⟩
def mkX (k : Int) (n : Nat) : List Str := (List.range n).map fun i : Nat => mkT (k + (i : Int))
theorem mkX_len {k : Int} {n : Nat} : (mkX k n).length = n := by simp [mkX]
theorem mkX_succ {k : Int} {n : Nat} : mkX k (n + 1) = mkX k n ++ [mkT (k + (n : Int))] := by simp [mkX, List.range_succ]
theorem mkX_set {k : Int} {ps : List Str} {j : Nat} {p : Str} (hp : ps[j]? = some p) : (mkX k j ++ ps.drop j).set j (mkT (k + (j : Int))) = mkX k (j + 1) ++ ps.drop (j + 1) := by
  obtain ⟨hj, rfl⟩ := List.getElem?_eq_some_iff.1 hp
  rw [List.set_append_right _ _ (by rw [mkX_len]; exact Nat.le_refl _), mkX_len, Nat.sub_self, List.drop_eq_getElem_cons hj, List.set_cons_zero, mkX_succ, List.append_assoc]; rfl
theorem c_markStringS (ps : List Str) (k : Int) (hk : 1 ≤ k ∧ k ≤ 100000000000) (hL : ps.length ≤ 1000000000) : Con Try.prog 13 [.one (.own 0), rI k] [.row 1 9 (stRs ps)] (fun rs all => rs = [.one (.c (.raw (.int .i64 (k + (ps.length : Int)))))] ∧ all = [.row 1 9 (stRs (mkX k ps.length))]) := by
  refine con_of_aw (vars := [.tmp 4]) [(0, .own 0), (1, .r (rI k))] [(0, .row 1 9 (stRs ps))] 1 Try.func13 (by kernel_rfl) rfl Try.ntmps13 rfl (by decide) rfl rfl rfl rfl rfl ?_; intro B M w0 ρ0 Z0
  repeat' (first | (refine is_al ?_; (first | (refine is_assign ?_; refine al_v (opx_assign (.raw _)) ⟨rfl, trivial⟩ trivial rfl ?_) | refine al_nil ?_)) | (refine is_aw ?_; (first | refine aw_seq ?_ | refine aw_region ?_ | refine aw_block ?_)))
  refine aw_loop (γ := Nat) (fun j => [(0, .own 0), (1, .i (k + (j : Int))), (5, .i (j : Int))]) (fun j => [(0, .row 1 9 (stRs (mkX k j ++ ps.drop j)))]) (fun _ => 1) (fun j => j ≤ ps.length) (fun j => ps.length - j) 0 (Nat.zero_le _) (le_mk [0] rfl rfl rfl rfl ⟨rfl, by rw [show k + ((0 : Nat) : Int) = k by omega]; rfl, rfl, trivial⟩ ⟨rfl, trivial⟩) ?_
  intro j hj
  have hlen := stRs_len (xs := mkX k j ++ ps.drop j)
  have hl2 : (mkX k j ++ ps.drop j).length = ps.length := by rw [List.length_append, mkX_len, List.length_drop]; omega
  rcases Nat.lt_or_ge j ps.length with hlt | hge
  · have hc : decide ((j : Int) < ((stRs (mkX k j ++ ps.drop j)).length : Int)) = true := decide_eq_true (by omega)
    obtain ⟨p, hp⟩ : ∃ p, ps[j]? = some p := ⟨_, List.getElem?_eq_getElem hlt⟩
    have hko : (mkX k j ++ ps.drop j)[j]? = some p := by rw [List.getElem?_append_right (by rw [mkX_len]; exact Nat.le_refl _), mkX_len, Nat.sub_self, List.getElem?_drop]; exact hp
    have hkr := stRs_at hko
    have hko2 : j < (stRs (mkX k j ++ ps.drop j)).length := by omega
    have hst := mkX_set (k := k) hp
    have e1 : k + (j : Int) + 1 = k + ((j + 1 : Nat) : Int) := by omega
    repeat' (first | (refine is_al ?_; (first | (refine is_move ?_; (first | refine al_v (opx_move (.raw _)) ⟨rfl, trivial⟩ trivial rfl ?_ | refine al_v (opx_move (.own _)) ⟨rfl, trivial⟩ trivial rfl ?_)) | (refine is_bin ?_; (first | refine al_v opx_lss ⟨rfl, rfl, trivial⟩ trivial rfl ?_ | refine al_v (opx_add (by unfold InR; omega)) ⟨rfl, rfl, trivial⟩ trivial rfl ?_)) | (refine is_assign ?_; refine al_v (opx_assign (.raw _)) ⟨rfl, trivial⟩ trivial rfl ?_) | (refine is_bi ?_; refine al_v opx_len_own ⟨rfl, trivial⟩ ⟨rfl, trivial⟩ rfl ?_) | (refine is_ia ?_; refine al_v (opx_ia_own2 hko2 (by omega)) ⟨rfl, rfl, trivial⟩ ⟨rfl, trivial⟩ rfl ?_) | (refine is_call ?_; refine al_callv2 (by (repeat (first | exact .nil | refine .one rfl rfl ?_ | refine .froz rfl rfl ?_ | refine .row rfl rfl ?_ | refine .rnil rfl ?_ | refine .agg rfl (by (repeat (first | exact .nil | refine .cons (.same rfl) ?_ | refine .cons (.froz rfl) ?_ | refine .cons (.rnil) ?_ | refine .cons (.row rfl rfl) ?_)); (first | done | fail)) ?_)); (first | done | fail)) rfl (c_markText _ ⟨by omega, by omega⟩) rfl ?_) | (refine is_st ?_; refine al_stS rfl rfl rfl (by assumption) ?_) | refine al_nil ?_)) | (refine is_aw ?_; (first | refine aw_seq ?_ | refine aw_region ?_ | refine aw_skip ?_ | refine aw_block ?_ | (refine is_cond ?_; refine aw_cond_t rfl (by assumption) ?_))) | refine thn_n ?_)
    rw [hst]
    exact ⟨j + 1, hlt, by omega, le_mk [0] rfl rfl rfl rfl ⟨rfl, by rw [← e1]; rfl, rfl, trivial⟩ ⟨rfl, trivial⟩⟩
  · have hc : decide ((j : Int) < ((stRs (mkX k j ++ ps.drop j)).length : Int)) = false := decide_eq_false (by omega)
    obtain rfl : j = ps.length := by omega
    rw [List.drop_length, List.append_nil]
    rw [List.drop_length, List.append_nil] at hc
    repeat' (first | (refine is_al ?_; (first | (refine is_move ?_; (first | refine al_v (opx_move (.raw _)) ⟨rfl, trivial⟩ trivial rfl ?_ | refine al_v (opx_move (.own _)) ⟨rfl, trivial⟩ trivial rfl ?_)) | (refine is_bin ?_; refine al_v opx_lss ⟨rfl, rfl, trivial⟩ trivial rfl ?_) | (refine is_assign ?_; refine al_v (opx_assign (.raw _)) ⟨rfl, trivial⟩ trivial rfl ?_) | (refine is_bi ?_; refine al_v opx_len_own ⟨rfl, trivial⟩ ⟨rfl, trivial⟩ rfl ?_) | refine al_nil ?_)) | (refine is_aw ?_; (first | refine aw_seq ?_ | refine aw_region ?_ | refine aw_ret ?_ | refine aw_exit ?_ | (refine is_cond ?_; refine aw_cond_f rfl (by assumption) ?_))))
    exact retm_raw trivial rfl rfl rfl ⟨rfl, rfl⟩
end Go.Proofs.Ytokhfcfnhgianaa
/-
  Calls that read a slice of the caller's own and answer new ones; answers that are written no more.
-/
namespace Go.Proofs.Ytokhfcfnhgianaa
open Go.RowKit
set_option linter.unusedVariables false
set_option linter.unusedSimpArgs false
end Go.Proofs.Ytokhfcfnhgianaa
