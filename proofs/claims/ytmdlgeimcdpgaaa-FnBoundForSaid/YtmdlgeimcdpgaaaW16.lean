/-
  The bound of a place: the walks, a law.
-/
import Derived.Test.YtmdlgeimcdpgaaaW15
namespace Go.Proofs.Ytmdlgeimcdpgaaa
open Go.RowKit
set_option linter.unusedVariables false
set_option linter.unusedSimpArgs false
attribute [local irreducible] AL AW OpX Le AD

def bfB (bs cs : List Int) (pl : Int) : Bool := vbB bs && (decide (cs.length = bs.length) && (vcB cs && (decide (0 ≤ pl ∧ pl ≤ 100) && decide (bs ≠ []))))
def enough (cs : List Int) (pl : Int) : Int := (pl * cs.getLastD 0 + 99) / 100
def bfK (cs : List Int) (pl : Int) : Nat := cs.findIdx fun c => decide (enough cs pl ≤ c)
def bfI (bs cs : List Int) (pl : Int) : Int := if bfB bs cs pl = true then bs.getD (bfK cs pl) 0 else 0
theorem bfB_of {bs cs : List Int} {pl : Int} (h : bfB bs cs pl = true) : vbB bs = true ∧ cs.length = bs.length ∧ vcB cs = true ∧ 0 ≤ pl ∧ pl ≤ 100 ∧ 0 < bs.length := by
  simp only [bfB, Bool.and_eq_true, decide_eq_true_eq] at h
  obtain ⟨h1, h2, h3, ⟨h4, h5⟩, h6⟩ := h
  exact ⟨h1, h2, h3, h4, h5, List.length_pos_iff.2 h6⟩
theorem vcB_in {cs : List Int} (h : vcB cs = true) {k : Nat} {c : Int} (hc : cs[k]? = some c) : 0 ≤ c ∧ c ≤ 100 := by
  rw [vcB, Bool.and_eq_true] at h
  exact allB_iff.1 h.1 k c hc
theorem last_at {cs : List Int} {n : Nat} (h : cs.length = n + 1) : ∃ c, cs[n]? = some c ∧ cs.getLastD 0 = c := by
  refine ⟨cs[n], List.getElem?_eq_getElem (by omega), ?_⟩
  rw [List.getLastD_eq_getLast?, List.getLast?_eq_getElem?, show cs.length - 1 = n by omega, List.getElem?_eq_getElem (show n < cs.length by omega)]; rfl
theorem enough_le {pl c : Int} (hp : 0 ≤ pl ∧ pl ≤ 100) (hc : 0 ≤ c ∧ c ≤ 100) : 0 ≤ pl * c ∧ pl * c ≤ 100 * c ∧ pl * c ≤ 10000 := by
  have h1 := Int.mul_nonneg hp.1 hc.1
  have h2 := Int.mul_le_mul_of_nonneg_right hp.2 hc.1
  omega
/-- The first one that has enough. -/
theorem bfK_is {cs : List Int} {pl : Int} {k : Nat} {c : Int} (hc : cs[k]? = some c) (h : enough cs pl ≤ c) (hb : ∀ (j : Nat) (x : Int), j < k → cs[j]? = some x → x < enough cs pl) : bfK cs pl = k := by
  obtain ⟨hk, rfl⟩ := List.getElem?_eq_some_iff.1 hc
  refine (List.findIdx_eq hk).2 ⟨by simpa using h, fun j hj => ?_⟩
  have := hb j _ hj (List.getElem?_eq_getElem (by omega))
  simpa using this

theorem bfK_ok {cs : List Int} {pl : Int} (hp : 0 ≤ pl ∧ pl ≤ 100) (hv : vcB cs = true) (h0 : 0 < cs.length) : ∃ c, cs[bfK cs pl]? = some c ∧ enough cs pl ≤ c := by
  obtain ⟨n, hn⟩ : ∃ n, cs.length = n + 1 := ⟨cs.length - 1, by omega⟩
  obtain ⟨c, hc, hl⟩ := last_at hn
  have he := enough_le hp (vcB_in hv hc)
  have hex : ∃ x ∈ cs, (fun c => decide (enough cs pl ≤ c)) x = true := ⟨c, List.mem_of_getElem? hc, by simp only [decide_eq_true_eq]; rw [enough, hl]; omega⟩
  have hlt : bfK cs pl < cs.length := List.findIdx_lt_length_of_exists hex
  exact ⟨cs[bfK cs pl], List.getElem?_eq_getElem hlt, by have h := List.findIdx_getElem (w := hlt); simp only [decide_eq_true_eq] at h; exact h⟩
theorem c_BoundFor (bs cs : List Int) (pl : Int) (hL : bs.length < 4611686018427387904) (hL2 : cs.length < 4611686018427387904) : Con Try.prog 17 [slI bs, slI cs, rI pl] [] (fun rs all => rs = [rI (bfI bs cs pl), rB (bfB bs cs pl)] ∧ all = []) := by
  have hlb := inRs_len (ns := bs)
  have hlc := inRs_len (ns := cs)
  refine con_of_aw (vars := [.tmp 6, .tmp 7]) [(0, .r (slI bs)), (1, .r (slI cs)), (2, .r (rI pl))] [] 0 Try.func17 (by kernel_rfl) rfl Try.ntmps17 rfl (by decide) rfl rfl rfl rfl rfl ?_
  intro B M w0 ρ0 Z0
  by_cases hv : bfB bs cs pl = true
  · obtain ⟨h1, h2, h3, h4, h5, h6⟩ := bfB_of hv
    have h8 := vbB_len h1
    have n1 : (!vbB bs) = false := by rw [h1]; rfl
    have n2 : (!decide (((inRs cs).length : Int) = ((inRs bs).length : Int))) = false := by rw [decide_eq_true (by omega)]; rfl
    have n3 : (!vcB cs) = false := by rw [h3]; rfl
    have n4 : decide (((inRs bs).length : Int) = 0) = false := decide_eq_false (by omega)
    obtain ⟨n, hn⟩ : ∃ n, cs.length = n + 1 := ⟨cs.length - 1, by omega⟩
    obtain ⟨c, hc, hl⟩ := last_at hn
    have hcr := inRs_at hc
    obtain ⟨b1, b2⟩ := vcB_in h3 hc
    obtain ⟨e1, e2, e3⟩ := enough_le ⟨h4, h5⟩ ⟨b1, b2⟩
    have hi : InR (pl * c) := ⟨by omega, by omega⟩
    have he : enough cs pl = (pl * c + 99) / 100 := by rw [enough, hl]
    repeat' (first | (refine is_al ?_; (first | (refine is_gd ?_; (first | refine al_on rfl rfl rfl (by assumption) ?_ | (refine al_g rfl rfl rfl rfl ?_ ?_ <;> ((intro hgd; try exact absurd hgd (by decide)); (try (have hz := hgd; simp only [decide_eq_true_eq, decide_eq_false_iff_not, Bool.not_eq_true', Bool.not_eq_false', Bool.not_true, Bool.not_false, beq_iff_eq, Int.not_le, Int.not_lt] at hz)); (try (exfalso; omega)))))) | (refine is_move ?_; (first | refine al_v (opx_move (.raw _)) ⟨rfl, trivial⟩ trivial rfl ?_ | refine al_v (opx_move (.sl _ _)) ⟨rfl, trivial⟩ trivial rfl ?_)) | (refine is_bin ?_; (first | refine al_v opx_eql ⟨rfl, rfl, trivial⟩ trivial rfl ?_ | refine al_v opx_neq ⟨rfl, rfl, trivial⟩ trivial rfl ?_ | refine al_v opx_lss ⟨rfl, rfl, trivial⟩ trivial rfl ?_ | refine al_v opx_gtr ⟨rfl, rfl, trivial⟩ trivial rfl ?_ | refine al_v (opx_add (by unfold InR; omega)) ⟨rfl, rfl, trivial⟩ trivial rfl ?_ | refine al_v (opx_sub (by unfold InR; omega)) ⟨rfl, rfl, trivial⟩ trivial rfl ?_ | refine al_v (opx_mul (by unfold InR; omega)) ⟨rfl, rfl, trivial⟩ trivial rfl ?_ | refine al_v (opx_quo (by unfold InR; omega) (by omega) (by omega)) ⟨rfl, rfl, trivial⟩ trivial rfl ?_)) | (refine is_load ?_; refine al_v opx_ld_imm ⟨rfl, trivial⟩ trivial rfl ?_) | (refine is_assign ?_; refine al_v (opx_assign (.raw _)) ⟨rfl, trivial⟩ trivial rfl ?_) | (refine is_pick ?_; refine al_v (opx_pick_f (.raw _) (by assumption)) ⟨rfl, rfl, trivial⟩ trivial rfl ?_) | (refine is_bi ?_; refine al_v opx_len_sl ⟨rfl, trivial⟩ trivial rfl ?_) | (refine is_ia ?_; refine al_v (opx_ia_sl2 hcr (by omega)) ⟨rfl, rfl, trivial⟩ trivial rfl ?_) | (refine is_call ?_; (first | refine al_callv2 (by (repeat (first | exact .nil | refine .one rfl rfl ?_ | refine .froz rfl rfl ?_ | refine .row rfl rfl ?_ | refine .rnil rfl ?_ | refine .agg rfl (by (repeat (first | exact .nil | refine .cons (.same rfl) ?_ | refine .cons (.froz rfl) ?_ | refine .cons (.rnil) ?_ | refine .cons (.row rfl rfl) ?_)); (first | done | fail)) ?_)); (first | done | fail)) rfl (c_validBounds _) rfl ?_ | refine al_callv2 (by (repeat (first | exact .nil | refine .one rfl rfl ?_ | refine .froz rfl rfl ?_ | refine .row rfl rfl ?_ | refine .rnil rfl ?_ | refine .agg rfl (by (repeat (first | exact .nil | refine .cons (.same rfl) ?_ | refine .cons (.froz rfl) ?_ | refine .cons (.rnil) ?_ | refine .cons (.row rfl rfl) ?_)); (first | done | fail)) ?_)); (first | done | fail)) rfl (c_validCounts _ hL2) rfl ?_)) | refine al_v opx_not ⟨rfl, trivial⟩ trivial rfl ?_ | refine al_nil ?_)) | (refine is_aw ?_; (first | refine aw_seq ?_ | refine aw_region ?_ | refine aw_skip ?_ | refine aw_block ?_ | (refine is_cond ?_; refine aw_cond_f rfl (by assumption) ?_))))
    rw [← he]
    refine aw_loop (γ := Nat) (fun k => [(0, .r (slI bs)), (1, .r (slI cs)), (6, .i 0), (7, .b false), (8, .i (enough cs pl)), (47, .r (slI cs)), (48, .i ((inRs cs).length : Int)), (49, .i (k : Int))]) (fun _ => []) (fun _ => 0)
      (fun k => k ≤ cs.length ∧ ∀ (j : Nat) (x : Int), j < k → cs[j]? = some x → x < enough cs pl) (fun k => cs.length - k) 0 ⟨Nat.zero_le _, fun j x h => by omega⟩ (le_mk [] rfl rfl rfl rfl ⟨rfl, rfl, rfl, rfl, rfl, rfl, rfl, rfl, trivial⟩ trivial) ?_
    rintro k ⟨hk, hb⟩
    rcases Nat.lt_or_ge k cs.length with hlt | hge
    · have hd : decide ((k : Int) < ((inRs cs).length : Int)) = true := decide_eq_true (by omega)
      obtain ⟨x, hx⟩ : ∃ x, cs[k]? = some x := ⟨_, List.getElem?_eq_getElem hlt⟩
      obtain ⟨y, hy⟩ : ∃ y, bs[k]? = some y := ⟨_, List.getElem?_eq_getElem (by omega)⟩
      have hxr := inRs_at hx
      have hyr := inRs_at hy
      by_cases h : enough cs pl ≤ x
      · have hd2 : decide (enough cs pl ≤ x) = true := decide_eq_true h
        have hK := bfK_is hx h hb
        repeat' (first | (refine is_al ?_; (first | (refine is_move ?_; (first | refine al_v (opx_move (.raw _)) ⟨rfl, trivial⟩ trivial rfl ?_ | refine al_v (opx_move (.sl _ _)) ⟨rfl, trivial⟩ trivial rfl ?_)) | (refine is_bin ?_; (first | refine al_v opx_lss ⟨rfl, rfl, trivial⟩ trivial rfl ?_ | refine al_v opx_geq ⟨rfl, rfl, trivial⟩ trivial rfl ?_)) | (refine is_load ?_; refine al_v opx_ld_imm ⟨rfl, trivial⟩ trivial rfl ?_) | (refine is_assign ?_; refine al_v (opx_assign (.raw _)) ⟨rfl, trivial⟩ trivial rfl ?_) | (refine is_ia ?_; (first | refine al_v (opx_ia_sl2 hxr (by omega)) ⟨rfl, rfl, trivial⟩ trivial rfl ?_ | refine al_v (opx_ia_sl2 hyr (by omega)) ⟨rfl, rfl, trivial⟩ trivial rfl ?_)) | refine al_nil ?_)) | (refine is_aw ?_; (first | refine aw_seq ?_ | refine aw_region ?_ | refine aw_skip ?_ | refine aw_block ?_ | refine aw_ret ?_ | (refine is_cond ?_; refine aw_cond_t rfl (by assumption) ?_))) | refine thn_r ?_ | refine inb_r ?_)
        exact ret_raw2 trivial rfl rfl ⟨by rw [bfI, if_pos hv, hK, hv, List.getD, hy]; rfl, rfl⟩
      · have hd2 : decide (enough cs pl ≤ x) = false := decide_eq_false h
        repeat' (first | (refine is_al ?_; (first | (refine is_move ?_; refine al_v (opx_move (.raw _)) ⟨rfl, trivial⟩ trivial rfl ?_) | (refine is_bin ?_; (first | refine al_v opx_lss ⟨rfl, rfl, trivial⟩ trivial rfl ?_ | refine al_v opx_geq ⟨rfl, rfl, trivial⟩ trivial rfl ?_ | refine al_v (opx_add (by unfold InR; omega)) ⟨rfl, rfl, trivial⟩ trivial rfl ?_)) | (refine is_load ?_; refine al_v opx_ld_imm ⟨rfl, trivial⟩ trivial rfl ?_) | (refine is_assign ?_; refine al_v (opx_assign (.raw _)) ⟨rfl, trivial⟩ trivial rfl ?_) | (refine is_ia ?_; refine al_v (opx_ia_sl2 hxr (by omega)) ⟨rfl, rfl, trivial⟩ trivial rfl ?_) | refine al_nil ?_)) | (refine is_aw ?_; (first | refine aw_seq ?_ | refine aw_region ?_ | refine aw_skip ?_ | refine aw_block ?_ | (refine is_cond ?_; (first | refine aw_cond_t rfl (by assumption) ?_ | refine aw_cond_f rfl (by assumption) ?_)))) | refine thn_n ?_)
        exact ⟨k + 1, ⟨hlt, fun j z hj hz => by
          rcases Nat.lt_or_ge j k with h' | h'
          · exact hb j z h' hz
          · rw [show j = k by omega, hx] at hz; cases hz; omega⟩, by omega, le_mk [] rfl rfl rfl rfl ⟨rfl, rfl, rfl, rfl, rfl, rfl, rfl, rfl, trivial⟩ trivial⟩
    · have := hb n c (by omega) hc
      omega
  · have hf : bfB bs cs pl = false := by simpa using hv
    have hbad : ¬ (vbB bs = true ∧ cs.length = bs.length ∧ vcB cs = true ∧ 0 ≤ pl ∧ pl ≤ 100 ∧ 0 < bs.length) := fun ⟨h1, h2, h3, h4, h5, h6⟩ => hv (by simp only [bfB, Bool.and_eq_true, decide_eq_true_eq]; exact ⟨h1, h2, h3, ⟨h4, h5⟩, List.length_pos_iff.1 h6⟩)
    repeat' (first | (refine is_al ?_; (first | (refine is_gd ?_; (first | refine al_on rfl rfl rfl (by assumption) ?_ | refine al_off rfl rfl rfl (by assumption) rfl ?_ | (refine al_g rfl rfl rfl rfl ?_ ?_ <;> ((intro hgd; try exact absurd hgd (by decide)); (try (have hz := hgd; simp only [decide_eq_true_eq, decide_eq_false_iff_not, Bool.not_eq_true', Bool.not_eq_false', Bool.not_true, Bool.not_false, beq_iff_eq, Int.not_le, Int.not_lt] at hz)); (try (exfalso; omega)))))) | (refine is_move ?_; (first | refine al_v (opx_move (.raw _)) ⟨rfl, trivial⟩ trivial rfl ?_ | refine al_v (opx_move (.sl _ _)) ⟨rfl, trivial⟩ trivial rfl ?_)) | (refine is_bin ?_; (first | refine al_v opx_eql ⟨rfl, rfl, trivial⟩ trivial rfl ?_ | refine al_v opx_neq ⟨rfl, rfl, trivial⟩ trivial rfl ?_ | refine al_v opx_lss ⟨rfl, rfl, trivial⟩ trivial rfl ?_ | refine al_v opx_gtr ⟨rfl, rfl, trivial⟩ trivial rfl ?_ | refine al_v (opx_sub (by unfold InR; omega)) ⟨rfl, rfl, trivial⟩ trivial rfl ?_)) | (refine is_assign ?_; refine al_v (opx_assign (.raw _)) ⟨rfl, trivial⟩ trivial rfl ?_) | (refine is_pick ?_; (first | refine al_v (opx_pick_t (.raw _) rfl) ⟨rfl, rfl, trivial⟩ trivial rfl ?_ | refine al_v (opx_pick_t (.raw _) (by assumption)) ⟨rfl, rfl, trivial⟩ trivial rfl ?_ | refine al_v (opx_pick_f (.raw _) (by assumption)) ⟨rfl, rfl, trivial⟩ trivial rfl ?_)) | (refine is_bi ?_; refine al_v opx_len_sl ⟨rfl, trivial⟩ trivial rfl ?_) | (refine is_call ?_; (first | refine al_callv2 (by (repeat (first | exact .nil | refine .one rfl rfl ?_ | refine .froz rfl rfl ?_ | refine .row rfl rfl ?_ | refine .rnil rfl ?_ | refine .agg rfl (by (repeat (first | exact .nil | refine .cons (.same rfl) ?_ | refine .cons (.froz rfl) ?_ | refine .cons (.rnil) ?_ | refine .cons (.row rfl rfl) ?_)); (first | done | fail)) ?_)); (first | done | fail)) rfl (c_validBounds _) rfl ?_ | refine al_callv2 (by (repeat (first | exact .nil | refine .one rfl rfl ?_ | refine .froz rfl rfl ?_ | refine .row rfl rfl ?_ | refine .rnil rfl ?_ | refine .agg rfl (by (repeat (first | exact .nil | refine .cons (.same rfl) ?_ | refine .cons (.froz rfl) ?_ | refine .cons (.rnil) ?_ | refine .cons (.row rfl rfl) ?_)); (first | done | fail)) ?_)); (first | done | fail)) rfl (c_validCounts _ hL2) rfl ?_)) | refine al_v opx_not ⟨rfl, trivial⟩ trivial rfl ?_ | refine al_nil ?_)) | (refine is_aw ?_; (first | refine aw_seq ?_ | refine aw_region ?_ | refine aw_skip ?_ | (refine is_cond ?_; (first | refine aw_cond_t rfl rfl ?_ | (refine aw_cond rfl ?_ ?_ <;> ((intro hgd; try exact absurd hgd (by decide)); (try (have hz := hgd; simp only [decide_eq_true_eq, decide_eq_false_iff_not, Bool.not_eq_true', Bool.not_eq_false', Bool.not_true, Bool.not_false, beq_iff_eq, Int.not_le, Int.not_lt] at hz)); (try (exfalso; omega)))))))) | refine thn_n ?_)
    all_goals first | exact absurd ⟨by assumption, by omega, by assumption, by omega, by omega, by omega⟩ hbad | (refine aw_ret ?_; repeat (first | refine thn_n ?_ | refine thn_r ?_ | refine thn_e ?_ | refine inb_n ?_ | refine inb_r ?_ | refine inb_hit ?_ | refine inb_miss rfl ?_); exact ret_raw2 trivial rfl rfl ⟨by rw [bfI, hf]; rfl, rfl⟩)

end Go.Proofs.Ytmdlgeimcdpgaaa
