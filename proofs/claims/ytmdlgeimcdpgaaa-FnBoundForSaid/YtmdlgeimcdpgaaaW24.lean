/-
  The bound of a place: the specification's walk, its drawn inputs, the law.
-/
import Derived.Test.YtmdlgeimcdpgaaaW16
namespace Go.Proofs.Ytmdlgeimcdpgaaa
open Go.RowKit
set_option linter.unusedVariables false
set_option linter.unusedSimpArgs false
attribute [local irreducible] AL AW OpX Le AD

theorem vb_lt {bs : List Int} (h : vbB bs = true) {i : Nat} {x : Int} (hx : bs[i]? = some x) : ∀ (d : Nat) (y : Int), bs[i + 1 + d]? = some y → x < y
  | 0, y, hy => by have := vbB_asc h hx hy; omega
  | d + 1, y, hy => by
    have hl := (List.getElem?_eq_some_iff.1 hy).1
    have h1 := vb_lt h hx d _ (List.getElem?_eq_getElem (show i + 1 + d < bs.length by omega))
    have h2 := vbB_asc h (List.getElem?_eq_getElem (show i + 1 + d < bs.length by omega)) hy
    omega
theorem vb_le {bs : List Int} (h : vbB bs = true) {i j : Nat} {x y : Int} (hx : bs[i]? = some x) (hy : bs[j]? = some y) (hij : i ≤ j) : x ≤ y := by
  rcases Nat.lt_or_ge i j with h1 | h1
  · have := vb_lt h hx (j - i - 1) y (by rw [show i + 1 + (j - i - 1) = j by omega]; exact hy)
    omega
  · rw [show i = j by omega, hy] at hx; cases hx; omega
theorem vb_inj {bs : List Int} (h : vbB bs = true) {i j : Nat} {x : Int} (hx : bs[i]? = some x) (hy : bs[j]? = some x) : i = j := by
  rcases Nat.lt_trichotomy i j with h1 | h1 | h1
  · have := vb_lt h hx (j - i - 1) x (by rw [show i + 1 + (j - i - 1) = j by omega]; exact hy)
    omega
  · exact h1
  · have := vb_lt h hy (i - j - 1) x (by rw [show j + 1 + (i - j - 1) = i by omega]; exact hx)
    omega
theorem vc_le {cs : List Int} (h : vcB cs = true) {i : Nat} {x : Int} (hx : cs[i]? = some x) : ∀ (d : Nat) (y : Int), cs[i + d]? = some y → x ≤ y
  | 0, y, hy => by rw [Nat.add_zero, hx] at hy; cases hy; omega
  | d + 1, y, hy => by
    have hl := (List.getElem?_eq_some_iff.1 hy).1
    have h1 := vc_le h hx d _ (List.getElem?_eq_getElem (show i + d < cs.length by omega))
    rw [vcB, Bool.and_eq_true] at h
    have h2 := ascB_iff.1 h.2 (i + d) _ _ (List.getElem?_eq_getElem (show i + d < cs.length by omega)) hy
    omega
/-- What the bound is. -/
theorem bf_some {bs cs : List Int} {pl : Int} (h : bfB bs cs pl = true) : ∃ (k : Nat) (c b : Int), cs[k]? = some c ∧ bs[k]? = some b ∧ bfI bs cs pl = b ∧ enough cs pl ≤ c ∧ ∀ (j : Nat) (x : Int), j < k → cs[j]? = some x → x < enough cs pl := by
  obtain ⟨h1, h2, h3, h4, h5, h6⟩ := bfB_of h
  obtain ⟨c, hc, he⟩ := bfK_ok ⟨h4, h5⟩ h3 (by omega)
  have hl := (List.getElem?_eq_some_iff.1 hc).1
  refine ⟨bfK cs pl, c, bs[bfK cs pl], hc, List.getElem?_eq_getElem (by omega), ?_, he, fun j x hj hx => ?_⟩
  · rw [bfI, if_pos h, List.getD, List.getElem?_eq_getElem (show bfK cs pl < bs.length by omega)]; rfl
  · obtain ⟨hjl, rfl⟩ := List.getElem?_eq_some_iff.1 hx
    have := List.not_of_lt_findIdx hj
    simp only [decide_eq_false_iff_not, decide_eq_true_eq] at this
    omega
theorem enough_mono {cs : List Int} {p q : Int} (h : p ≤ q) (h0 : 0 ≤ cs.getLastD 0) : enough cs p ≤ enough cs q := by
  have := Int.mul_le_mul_of_nonneg_right h h0
  rw [enough, enough]; omega
theorem bf_mono {bs cs : List Int} {p q : Int} (h1 : bfB bs cs p = true) (h2 : bfB bs cs q = true) (h : p ≤ q) : bfI bs cs p ≤ bfI bs cs q := by
  obtain ⟨v1, v2, v3, v4, v5, v6⟩ := bfB_of h1
  obtain ⟨k, c, b, a1, a2, a3, a4, a5⟩ := bf_some h1
  obtain ⟨k', c', b', b1, b2, b3, b4, b5⟩ := bf_some h2
  obtain ⟨n, hn⟩ : ∃ n, cs.length = n + 1 := ⟨cs.length - 1, by omega⟩
  obtain ⟨z, hz, hl⟩ := last_at hn
  have h0 := vcB_in v3 hz
  have he := enough_mono (cs := cs) h (by rw [hl]; exact h0.1)
  rw [a3, b3]
  refine vb_le v1 a2 b2 ?_
  rcases Nat.lt_or_ge k' k with hlt | hge
  · have := a5 k' c' hlt b1; omega
  · exact hge
theorem bf_in {bs cs : List Int} {p : Int} (h1 : bfB bs cs p = true) : bs.contains (bfI bs cs p) = true := by
  obtain ⟨k, c, b, a1, a2, a3, a4, a5⟩ := bf_some h1
  rw [a3, List.contains_iff_mem]
  exact List.mem_of_getElem? a2
theorem bf_to {bs cs : List Int} {p q : Int} (h1 : bfB bs cs p = true) (h : 0 ≤ q ∧ q ≤ 100) : bfB bs cs q = true := by
  obtain ⟨v1, v2, v3, v4, v5, v6⟩ := bfB_of h1
  simp only [bfB, Bool.and_eq_true, decide_eq_true_eq]; exact ⟨v1, v2, v3, h, List.length_pos_iff.1 v6⟩
/-- The bound of the hundredth place is the first that has all. -/
theorem bf_top {bs cs : List Int} (h1 : bfB bs cs 100 = true) {n : Nat} (hn : cs.length = n + 1) {z : Int} (hz : cs[n]? = some z) {i : Nat} {b c : Int} (hb : bs[i]? = some b) (hc : cs[i]? = some c) (he : b = bfI bs cs 100) :
    c = z ∧ ∀ d, 0 < i → cs[i - 1]? = some d → d ≠ c := by
  obtain ⟨v1, v2, v3, v4, v5, v6⟩ := bfB_of h1
  obtain ⟨k, c', b', a1, a2, a3, a4, a5⟩ := bf_some h1
  have hk : i = k := vb_inj v1 hb (by rw [he, a3]; exact a2)
  subst hk
  rw [hc] at a1; cases a1
  obtain ⟨z', hz', hl⟩ := last_at hn
  rw [hz] at hz'; cases hz'
  have hi := (List.getElem?_eq_some_iff.1 hc).1
  have hle := vc_le v3 hc (n - i) z (by rw [show i + (n - i) = n by omega]; exact hz)
  rw [enough, hl] at a4 a5
  refine ⟨by omega, fun d h0 hd => ?_⟩
  have := a5 (i - 1) d (by omega) hd
  omega

theorem c_sBoundFor (bs cs : List Int) (pl : Int) (hL : bs.length < 4611686018427387904) (hL2 : cs.length < 4611686018427387904) : Con Try.prog 18 [slI bs, slI cs, rI pl] [] (fun rs all => rs = [rI (bfI bs cs pl), rB (bfB bs cs pl)] ∧ all = []) := by
  have hlb := inRs_len (ns := bs)
  have hlc := inRs_len (ns := cs)
  refine con_of_aw (vars := [.tmp 6, .tmp 7]) [(0, .r (slI bs)), (1, .r (slI cs)), (2, .r (rI pl))] [] 0 Try.func18 (by kernel_rfl) rfl Try.ntmps18 rfl (by decide) rfl rfl rfl rfl rfl ?_
  intro B M w0 ρ0 Z0
  by_cases hv : vbB bs = true ∧ 0 < bs.length ∧ cs.length = bs.length ∧ (0 ≤ pl ∧ pl ≤ 100) ∧ allB 0 100 cs = true
  · obtain ⟨h1, h6, h2, h4, h3⟩ := hv
    have n1 : (!vbB bs) = false := by rw [h1]; rfl
    have n2 : (!decide (((inRs cs).length : Int) = ((inRs bs).length : Int))) = false := by rw [decide_eq_true (by omega)]; rfl
    have n3 : (!allB 0 100 cs) = false := by rw [h3]; rfl
    have n4 : decide (((inRs bs).length : Int) = 0) = false := decide_eq_false (by omega)
    have n5 : (!decide (0 ≤ pl ∧ pl ≤ 100)) = false := by rw [decide_eq_true h4]; rfl
    repeat' (first | (refine is_al ?_; (first | (refine is_gd ?_; refine al_on rfl rfl rfl (by assumption) ?_) | (refine is_move ?_; (first | refine al_v (opx_move (.raw _)) ⟨rfl, trivial⟩ trivial rfl ?_ | refine al_v (opx_move (.sl _ _)) ⟨rfl, trivial⟩ trivial rfl ?_)) | (refine is_bin ?_; (first | refine al_v opx_eql ⟨rfl, rfl, trivial⟩ trivial rfl ?_ | refine al_v opx_neq ⟨rfl, rfl, trivial⟩ trivial rfl ?_)) | (refine is_assign ?_; refine al_v (opx_assign (.raw _)) ⟨rfl, trivial⟩ trivial rfl ?_) | (refine is_pick ?_; refine al_v (opx_pick_f (.raw _) (by assumption)) ⟨rfl, rfl, trivial⟩ trivial rfl ?_) | (refine is_bi ?_; refine al_v opx_len_sl ⟨rfl, trivial⟩ trivial rfl ?_) | (refine is_call ?_; (first | refine al_callv2 (by (repeat (first | exact .nil | refine .one rfl rfl ?_ | refine .froz rfl rfl ?_ | refine .row rfl rfl ?_ | refine .rnil rfl ?_ | refine .agg rfl (by (repeat (first | exact .nil | refine .cons (.same rfl) ?_ | refine .cons (.froz rfl) ?_ | refine .cons (.rnil) ?_ | refine .cons (.row rfl rfl) ?_)); (first | done | fail)) ?_)); (first | done | fail)) rfl (c_sValidBounds _ hL) rfl ?_ | refine al_callv2 (by (repeat (first | exact .nil | refine .one rfl rfl ?_ | refine .froz rfl rfl ?_ | refine .row rfl rfl ?_ | refine .rnil rfl ?_ | refine .agg rfl (by (repeat (first | exact .nil | refine .cons (.same rfl) ?_ | refine .cons (.froz rfl) ?_ | refine .cons (.rnil) ?_ | refine .cons (.row rfl rfl) ?_)); (first | done | fail)) ?_)); (first | done | fail)) rfl (c_inRange _ _ _) rfl ?_ | refine al_callv2 (by (repeat (first | exact .nil | refine .one rfl rfl ?_ | refine .froz rfl rfl ?_ | refine .row rfl rfl ?_ | refine .rnil rfl ?_ | refine .agg rfl (by (repeat (first | exact .nil | refine .cons (.same rfl) ?_ | refine .cons (.froz rfl) ?_ | refine .cons (.rnil) ?_ | refine .cons (.row rfl rfl) ?_)); (first | done | fail)) ?_)); (first | done | fail)) rfl (c_allIn _ _ _ hL2) rfl ?_)) | refine al_v opx_not ⟨rfl, trivial⟩ trivial rfl ?_ | refine al_nil ?_)) | (refine is_aw ?_; (first | refine aw_seq ?_ | refine aw_region ?_ | refine aw_skip ?_ | refine aw_block ?_ | (refine is_cond ?_; refine aw_cond_f rfl (by assumption) ?_))))
    refine aw_loop (γ := Nat) (fun k => [(0, .r (slI bs)), (1, .r (slI cs)), (2, .r (rI pl)), (6, .i 0), (7, .b false), (8, .i ((k + 1 : Nat) : Int))]) (fun _ => []) (fun _ => 0)
      (fun k => k + 1 ≤ cs.length ∧ ∀ (j : Nat) (y x : Int), j < k → cs[j]? = some y → cs[j + 1]? = some x → y + 0 ≤ x) (fun k => cs.length - k) 0 ⟨by omega, fun j y x h => by omega⟩ (le_mk [] rfl rfl rfl rfl ⟨rfl, rfl, rfl, rfl, rfl, rfl, trivial⟩ trivial) ?_
    rintro k ⟨hk, hb⟩
    rcases Nat.lt_or_ge (k + 1) cs.length with hlt | hge
    · have hd : decide (((k + 1 : Nat) : Int) < ((inRs cs).length : Int)) = true := decide_eq_true (by omega)
      obtain ⟨x, hx⟩ : ∃ x, cs[k + 1]? = some x := ⟨_, List.getElem?_eq_getElem hlt⟩
      obtain ⟨y, hy⟩ : ∃ y, cs[k]? = some y := ⟨_, List.getElem?_eq_getElem (by omega)⟩
      have hxr := inRs_at hx
      have hyr := inRs_at hy
      by_cases h : x < y
      · have hd2 : decide (x < y) = true := decide_eq_true h
        have hf : bfB bs cs pl = false := by
          have : ascB 0 cs = false := ascB_f hy hx (by omega)
          rw [bfB, vcB, this]; simp
        repeat' (first | (refine is_al ?_; (first | (refine is_move ?_; (first | refine al_v (opx_move (.raw _)) ⟨rfl, trivial⟩ trivial rfl ?_ | refine al_v (opx_move (.sl _ _)) ⟨rfl, trivial⟩ trivial rfl ?_)) | (refine is_bin ?_; refine al_v opx_lss ⟨rfl, rfl, trivial⟩ trivial rfl ?_) | (refine is_assign ?_; refine al_v (opx_assign (.raw _)) ⟨rfl, trivial⟩ trivial rfl ?_) | (refine is_bi ?_; refine al_v opx_len_sl ⟨rfl, trivial⟩ trivial rfl ?_) | refine al_nil ?_)) | (refine is_ad ?_; (first | (refine isd_move ?_; (first | refine ad_v (opx_move (.raw _)) ⟨rfl, trivial⟩ trivial rfl ?_ | refine ad_v (opx_move (.sl _ _)) ⟨rfl, trivial⟩ trivial rfl ?_)) | (refine isd_bin ?_; (first | refine ad_v opx_lss ⟨rfl, rfl, trivial⟩ trivial rfl ?_ | refine ad_v (opx_sub (by unfold InR; omega)) ⟨rfl, rfl, trivial⟩ trivial rfl ?_)) | (refine isd_load ?_; refine ad_v opx_ld_imm ⟨rfl, trivial⟩ trivial rfl ?_) | (refine isd_ia ?_; (first | refine ad_v (opx_ia_sl2 hxr (by omega)) ⟨rfl, rfl, trivial⟩ trivial rfl ?_ | refine ad_v (opx_ia_sl2 hyr (by omega)) ⟨rfl, rfl, trivial⟩ trivial rfl ?_)) | refine ad_nil (by kernel_rfl) ?_)) | (refine is_aw ?_; (first | refine aw_seq ?_ | refine aw_region ?_ | refine aw_skip ?_ | refine aw_block ?_ | refine aw_ret ?_ | (refine is_cond ?_; refine aw_cond_t rfl (by assumption) ?_) | refine aw_draw mixed ?_)) | refine thn_r ?_ | refine inb_r ?_)
        exact ret_raw2 trivial rfl rfl ⟨by rw [bfI, hf]; rfl, rfl⟩
      · have hd2 : decide (x < y) = false := decide_eq_false h
        repeat' (first | (refine is_al ?_; (first | (refine is_move ?_; (first | refine al_v (opx_move (.raw _)) ⟨rfl, trivial⟩ trivial rfl ?_ | refine al_v (opx_move (.sl _ _)) ⟨rfl, trivial⟩ trivial rfl ?_)) | (refine is_bin ?_; (first | refine al_v opx_lss ⟨rfl, rfl, trivial⟩ trivial rfl ?_ | refine al_v (opx_add (by unfold InR; omega)) ⟨rfl, rfl, trivial⟩ trivial rfl ?_)) | (refine is_assign ?_; refine al_v (opx_assign (.raw _)) ⟨rfl, trivial⟩ trivial rfl ?_) | (refine is_bi ?_; refine al_v opx_len_sl ⟨rfl, trivial⟩ trivial rfl ?_) | refine al_nil ?_)) | (refine is_ad ?_; (first | (refine isd_move ?_; (first | refine ad_v (opx_move (.raw _)) ⟨rfl, trivial⟩ trivial rfl ?_ | refine ad_v (opx_move (.sl _ _)) ⟨rfl, trivial⟩ trivial rfl ?_)) | (refine isd_bin ?_; (first | refine ad_v opx_lss ⟨rfl, rfl, trivial⟩ trivial rfl ?_ | refine ad_v (opx_sub (by unfold InR; omega)) ⟨rfl, rfl, trivial⟩ trivial rfl ?_)) | (refine isd_load ?_; refine ad_v opx_ld_imm ⟨rfl, trivial⟩ trivial rfl ?_) | (refine isd_ia ?_; (first | refine ad_v (opx_ia_sl2 hxr (by omega)) ⟨rfl, rfl, trivial⟩ trivial rfl ?_ | refine ad_v (opx_ia_sl2 hyr (by omega)) ⟨rfl, rfl, trivial⟩ trivial rfl ?_)) | refine ad_nil (by kernel_rfl) ?_)) | (refine is_aw ?_; (first | refine aw_seq ?_ | refine aw_region ?_ | refine aw_skip ?_ | refine aw_block ?_ | (refine is_cond ?_; (first | refine aw_cond_t rfl (by assumption) ?_ | refine aw_cond_f rfl (by assumption) ?_)) | refine aw_draw mixed ?_)) | refine thn_n ?_)
        exact ⟨k + 1, ⟨hlt, fun j y' x' hj hy' hx' => by
          rcases Nat.lt_or_ge j k with h' | h'
          · exact hb j y' x' h' hy' hx'
          · rw [show j = k by omega] at hy' hx'; rw [hy] at hy'; rw [hx] at hx'; cases hy'; cases hx'; omega⟩, by omega, le_mk [] rfl rfl rfl rfl ⟨rfl, rfl, rfl, rfl, rfl, rfl, trivial⟩ trivial⟩
    · have hd : decide (((k + 1 : Nat) : Int) < ((inRs cs).length : Int)) = false := decide_eq_false (by omega)
      have hvc : vcB cs = true := by
        rw [vcB, h3, ascB_iff.2 fun j y x hy hx => hb j y x (by have := (List.getElem?_eq_some_iff.1 hx).1; omega) hy hx]; rfl
      have hv : bfB bs cs pl = true := by simp only [bfB, Bool.and_eq_true, decide_eq_true_eq]; exact ⟨h1, h2, hvc, h4, List.length_pos_iff.1 h6⟩
      obtain ⟨n, hn⟩ : ∃ n, cs.length = n + 1 := ⟨cs.length - 1, by omega⟩
      obtain ⟨c, hc, hl⟩ := last_at hn
      have hcr := inRs_at hc
      obtain ⟨b1, b2⟩ := vcB_in hvc hc
      obtain ⟨e1, e2, e3⟩ := enough_le h4 ⟨b1, b2⟩
      have hi : InR (pl * c) := ⟨by omega, by omega⟩
      have he : enough cs pl = (pl * c + 99) / 100 := by rw [enough, hl]
      repeat' (first | (refine is_al ?_; (first | (refine is_move ?_; (first | refine al_v (opx_move (.raw _)) ⟨rfl, trivial⟩ trivial rfl ?_ | refine al_v (opx_move (.sl _ _)) ⟨rfl, trivial⟩ trivial rfl ?_)) | (refine is_bin ?_; (first | refine al_v opx_lss ⟨rfl, rfl, trivial⟩ trivial rfl ?_ | refine al_v (opx_add (by unfold InR; omega)) ⟨rfl, rfl, trivial⟩ trivial rfl ?_ | refine al_v (opx_sub (by unfold InR; omega)) ⟨rfl, rfl, trivial⟩ trivial rfl ?_ | refine al_v (opx_mul (by unfold InR; omega)) ⟨rfl, rfl, trivial⟩ trivial rfl ?_ | refine al_v (opx_quo (by unfold InR; omega) (by omega) (by omega)) ⟨rfl, rfl, trivial⟩ trivial rfl ?_)) | (refine is_load ?_; refine al_v opx_ld_imm ⟨rfl, trivial⟩ trivial rfl ?_) | (refine is_assign ?_; refine al_v (opx_assign (.raw _)) ⟨rfl, trivial⟩ trivial rfl ?_) | (refine is_bi ?_; refine al_v opx_len_sl ⟨rfl, trivial⟩ trivial rfl ?_) | (refine is_ia ?_; refine al_v (opx_ia_sl2 hcr (by omega)) ⟨rfl, rfl, trivial⟩ trivial rfl ?_) | refine al_nil ?_)) | (refine is_aw ?_; (first | refine aw_seq ?_ | refine aw_region ?_ | refine aw_block ?_ | refine aw_exit ?_ | (refine is_cond ?_; refine aw_cond_f rfl (by assumption) ?_))))
      rw [← he]
      refine aw_loop (γ := Nat) (fun k => [(0, .r (slI bs)), (1, .r (slI cs)), (6, .i 0), (7, .b false), (9, .i (enough cs pl)), (10, .i (k : Int))]) (fun _ => []) (fun _ => 0)
        (fun k => k < cs.length ∧ ∀ (j : Nat) (x : Int), j < k → cs[j]? = some x → x < enough cs pl) (fun k => cs.length - k) 0 ⟨by omega, fun j x h => by omega⟩ (le_mk [] rfl rfl rfl rfl ⟨rfl, rfl, rfl, rfl, rfl, rfl, trivial⟩ trivial) ?_
      rintro k ⟨hk, hb⟩
      obtain ⟨x, hx⟩ : ∃ x, cs[k]? = some x := ⟨_, List.getElem?_eq_getElem hk⟩
      obtain ⟨y, hy⟩ : ∃ y, bs[k]? = some y := ⟨_, List.getElem?_eq_getElem (by omega)⟩
      have hxr := inRs_at hx
      have hyr := inRs_at hy
      by_cases h : enough cs pl ≤ x
      · have hd2 : decide (x < enough cs pl) = false := decide_eq_false (by omega)
        have hK := bfK_is hx h hb
        repeat' (first | (refine is_al ?_; (first | (refine is_move ?_; (first | refine al_v (opx_move (.raw _)) ⟨rfl, trivial⟩ trivial rfl ?_ | refine al_v (opx_move (.sl _ _)) ⟨rfl, trivial⟩ trivial rfl ?_)) | (refine is_bin ?_; refine al_v opx_lss ⟨rfl, rfl, trivial⟩ trivial rfl ?_) | (refine is_load ?_; refine al_v opx_ld_imm ⟨rfl, trivial⟩ trivial rfl ?_) | (refine is_assign ?_; refine al_v (opx_assign (.raw _)) ⟨rfl, trivial⟩ trivial rfl ?_) | (refine is_ia ?_; (first | refine al_v (opx_ia_sl2 hxr (by omega)) ⟨rfl, rfl, trivial⟩ trivial rfl ?_ | refine al_v (opx_ia_sl2 hyr (by omega)) ⟨rfl, rfl, trivial⟩ trivial rfl ?_)) | refine al_nil ?_)) | (refine is_aw ?_; (first | refine aw_seq ?_ | refine aw_region ?_ | refine aw_ret ?_ | refine aw_exit ?_ | (refine is_cond ?_; refine aw_cond_f rfl (by assumption) ?_))))
        exact ret_raw2 trivial rfl rfl ⟨by rw [bfI, if_pos hv, hK, hv, List.getD, hy]; rfl, rfl⟩
      · have hd2 : decide (x < enough cs pl) = true := decide_eq_true (by omega)
        have hkn : k ≠ n := fun e => by
          subst e; rw [hc] at hx; cases hx; omega
        repeat' (first | (refine is_al ?_; (first | (refine is_move ?_; (first | refine al_v (opx_move (.raw _)) ⟨rfl, trivial⟩ trivial rfl ?_ | refine al_v (opx_move (.sl _ _)) ⟨rfl, trivial⟩ trivial rfl ?_)) | (refine is_bin ?_; (first | refine al_v opx_lss ⟨rfl, rfl, trivial⟩ trivial rfl ?_ | refine al_v (opx_add (by unfold InR; omega)) ⟨rfl, rfl, trivial⟩ trivial rfl ?_)) | (refine is_load ?_; refine al_v opx_ld_imm ⟨rfl, trivial⟩ trivial rfl ?_) | (refine is_assign ?_; refine al_v (opx_assign (.raw _)) ⟨rfl, trivial⟩ trivial rfl ?_) | (refine is_ia ?_; refine al_v (opx_ia_sl2 hxr (by omega)) ⟨rfl, rfl, trivial⟩ trivial rfl ?_) | refine al_nil ?_)) | (refine is_aw ?_; (first | refine aw_seq ?_ | refine aw_region ?_ | refine aw_skip ?_ | refine aw_block ?_ | (refine is_cond ?_; refine aw_cond_t rfl (by assumption) ?_))) | refine thn_n ?_ | refine inb_n ?_)
        exact ⟨k + 1, ⟨by omega, fun j z hj hz => by
          rcases Nat.lt_or_ge j k with h' | h'
          · exact hb j z h' hz
          · rw [show j = k by omega, hx] at hz; cases hz; omega⟩, by omega, le_mk [] rfl rfl rfl rfl ⟨rfl, rfl, rfl, rfl, rfl, rfl, trivial⟩ trivial⟩
  · have hf : bfB bs cs pl = false := by
      cases hx : bfB bs cs pl
      · rfl
      · obtain ⟨h1, h2, h3, h4, h5, h6⟩ := bfB_of hx
        rw [vcB, Bool.and_eq_true] at h3
        exact absurd ⟨h1, h6, h2, ⟨h4, h5⟩, h3.1⟩ hv
    have hbad : ¬ (vbB bs = true ∧ 0 < bs.length ∧ cs.length = bs.length ∧ (0 ≤ pl ∧ pl ≤ 100) ∧ allB 0 100 cs = true) := hv
    clear hv
    repeat' (first | (refine is_al ?_; (first | (refine is_gd ?_; (first | refine al_on rfl rfl rfl (by assumption) ?_ | refine al_off rfl rfl rfl (by assumption) rfl ?_ | (refine al_g rfl rfl rfl rfl ?_ ?_ <;> ((intro hgd; try exact absurd hgd (by decide)); (try (have hz := hgd; simp only [decide_eq_true_eq, decide_eq_false_iff_not, Bool.not_eq_true', Bool.not_eq_false', Bool.not_true, Bool.not_false, beq_iff_eq, Int.not_le, Int.not_lt] at hz)); (try (exfalso; omega)))))) | (refine is_move ?_; (first | refine al_v (opx_move (.raw _)) ⟨rfl, trivial⟩ trivial rfl ?_ | refine al_v (opx_move (.sl _ _)) ⟨rfl, trivial⟩ trivial rfl ?_)) | (refine is_bin ?_; (first | refine al_v opx_eql ⟨rfl, rfl, trivial⟩ trivial rfl ?_ | refine al_v opx_neq ⟨rfl, rfl, trivial⟩ trivial rfl ?_)) | (refine is_assign ?_; refine al_v (opx_assign (.raw _)) ⟨rfl, trivial⟩ trivial rfl ?_) | (refine is_pick ?_; (first | refine al_v (opx_pick_t (.raw _) rfl) ⟨rfl, rfl, trivial⟩ trivial rfl ?_ | refine al_v (opx_pick_t (.raw _) (by assumption)) ⟨rfl, rfl, trivial⟩ trivial rfl ?_ | refine al_v (opx_pick_f (.raw _) (by assumption)) ⟨rfl, rfl, trivial⟩ trivial rfl ?_)) | (refine is_bi ?_; refine al_v opx_len_sl ⟨rfl, trivial⟩ trivial rfl ?_) | (refine is_call ?_; (first | refine al_callv2 (by (repeat (first | exact .nil | refine .one rfl rfl ?_ | refine .froz rfl rfl ?_ | refine .row rfl rfl ?_ | refine .rnil rfl ?_ | refine .agg rfl (by (repeat (first | exact .nil | refine .cons (.same rfl) ?_ | refine .cons (.froz rfl) ?_ | refine .cons (.rnil) ?_ | refine .cons (.row rfl rfl) ?_)); (first | done | fail)) ?_)); (first | done | fail)) rfl (c_sValidBounds _ hL) rfl ?_ | refine al_callv2 (by (repeat (first | exact .nil | refine .one rfl rfl ?_ | refine .froz rfl rfl ?_ | refine .row rfl rfl ?_ | refine .rnil rfl ?_ | refine .agg rfl (by (repeat (first | exact .nil | refine .cons (.same rfl) ?_ | refine .cons (.froz rfl) ?_ | refine .cons (.rnil) ?_ | refine .cons (.row rfl rfl) ?_)); (first | done | fail)) ?_)); (first | done | fail)) rfl (c_inRange _ _ _) rfl ?_ | refine al_callv2 (by (repeat (first | exact .nil | refine .one rfl rfl ?_ | refine .froz rfl rfl ?_ | refine .row rfl rfl ?_ | refine .rnil rfl ?_ | refine .agg rfl (by (repeat (first | exact .nil | refine .cons (.same rfl) ?_ | refine .cons (.froz rfl) ?_ | refine .cons (.rnil) ?_ | refine .cons (.row rfl rfl) ?_)); (first | done | fail)) ?_)); (first | done | fail)) rfl (c_allIn _ _ _ hL2) rfl ?_)) | refine al_v opx_not ⟨rfl, trivial⟩ trivial rfl ?_ | refine al_nil ?_)) | (refine is_aw ?_; (first | refine aw_seq ?_ | refine aw_region ?_ | refine aw_skip ?_ | refine aw_block ?_ | (refine is_cond ?_; (first | refine aw_cond_t rfl rfl ?_ | (refine aw_cond rfl ?_ ?_ <;> ((intro hgd; try exact absurd hgd (by decide)); (try (have hz := hgd; simp only [decide_eq_true_eq, decide_eq_false_iff_not, Bool.not_eq_true', Bool.not_eq_false', Bool.not_true, Bool.not_false, beq_iff_eq, Int.not_le, Int.not_lt] at hz)); (try (exfalso; omega)))))))) | refine thn_n ?_)
    all_goals first | exact absurd ⟨by assumption, by omega, by omega, by first | omega | assumption, by assumption⟩ hbad | (refine aw_ret ?_; repeat (first | refine thn_n ?_ | refine thn_r ?_ | refine thn_e ?_ | refine inb_n ?_ | refine inb_r ?_ | refine inb_hit ?_ | refine inb_miss rfl ?_); exact ret_raw2 trivial rfl rfl ⟨by rw [bfI, hf]; rfl, rfl⟩)

theorem c_drawBoundFor (bs : List UInt8) (hb : bs.length ≤ 1048576) :
    Con Try.prog 16 [slB bs] [] (fun rs all => ∃ (ns ms : List Int) (z : Int), rs = [.one (.own 0), .one (.own 1), rI z] ∧ all = [.row 1 3 (inRs ns), .row 1 3 (inRs ms)] ∧ ns.length ≤ 11 ∧ ms.length ≤ 20 ∧ -1 ≤ z ∧ z ≤ 101) := by
  refine con_of_aw (vars := [.tmp 2, .tmp 3, .tmp 4]) [(0, .r (slB bs))] [] 0 Try.func16 (by kernel_rfl) rfl Try.ntmps16 rfl (by decide) rfl rfl rfl rfl rfl ?_
  intro B M w0 ρ0 Z0
  repeat' (first | (refine is_al ?_; (first | (refine is_move ?_; (first | refine al_v (opx_move (.sl _ _)) ⟨rfl, trivial⟩ trivial rfl ?_ | refine al_v (opx_move (.ref _ _)) ⟨rfl, trivial⟩ trivial rfl ?_)) | (refine is_assign ?_; (first | refine al_v (opx_assign (.raw _)) ⟨rfl, trivial⟩ trivial rfl ?_ | refine al_v (opx_assign (.own _)) ⟨rfl, trivial⟩ trivial rfl ?_ | refine al_v (opx_assign (.ref _ _)) ⟨rfl, trivial⟩ trivial rfl ?_)) | (refine is_call ?_; (first | (refine al_newrd (by (repeat (first | exact .nil | refine .one rfl rfl ?_ | refine .froz rfl rfl ?_ | refine .rnil rfl ?_ | refine .agg rfl (by (repeat (first | exact .nil | refine .cons (.same rfl) ?_ | refine .cons (.froz rfl) ?_ | refine .cons (.rnil) ?_)); (first | done | fail)) ?_)); (first | done | fail)) rfl (c_newReader bs hb) ?_; rintro bs hbs) | (refine al_rdr 0 rfl rfl (by (repeat (first | exact .nil | refine .one rfl rfl ?_ | refine .tag rfl ?_ | refine .froz rfl rfl ?_ | refine .rnil rfl ?_ | refine .agg rfl (by (repeat (first | exact .nil | refine .cons (.same rfl) ?_ | refine .cons (.froz rfl) ?_ | refine .cons (.rnil) ?_)); (first | done | fail)) ?_)); (first | done | fail)) rfl (c_someBounds _ _ hbs (by omega)) ?_; rintro _ q1 ⟨ns, rfl, g1, g2, g3⟩) | (refine al_rdv 0 rfl rfl (by (repeat (first | exact .nil | refine .one rfl rfl ?_ | refine .tag rfl ?_ | refine .froz rfl rfl ?_ | refine .rnil rfl ?_ | refine .agg rfl (by (repeat (first | exact .nil | refine .cons (.same rfl) ?_ | refine .cons (.froz rfl) ?_ | refine .cons (.rnil) ?_)); (first | done | fail)) ?_)); (first | done | fail)) rfl (c_pick _ _ _ hbs (by omega) (by omega)) ?_; rintro r q ⟨rfl, ha1, ha2, ha3⟩))) | (refine is_bs ?_; refine al_n opx_lit0 trivial trivial rfl ?_) | refine al_nil ?_)) | (refine is_aw ?_; (first | refine aw_seq ?_ | refine aw_region ?_ | refine aw_block ?_)))
  have hlen := inRs_len (ns := ns)
  refine aw_loop (γ := List Int × Int × Nat × Int) (fun g => [(5, .ref 0 0), (6, .own 1), (7, .own 2), (8, .i g.2.1), (9, .i (g.2.2.1 : Int))]) (fun g => [(0, rdO _ g.2.2.2), (1, .row 1 3 (inRs ns)), (2, .row 1 3 (inRs g.1))]) (fun _ => 3)
    (fun g => g.1.length = g.2.2.1 ∧ g.2.2.1 ≤ ns.length ∧ 0 ≤ g.2.1 ∧ g.2.1 ≤ 4 + 10 * g.2.2.1 ∧ 0 ≤ g.2.2.2 ∧ g.2.2.2 ≤ 100 + 2 * g.2.2.1) (fun g => ns.length - g.2.2.1) ([], _, 0, _) (by dsimp only; simp; omega) (le_mk [0, 1, 2] rfl rfl rfl rfl ⟨rfl, rfl, rfl, rfl, rfl, trivial⟩ ⟨rfl, rfl, rfl, trivial⟩) ?_
  rintro ⟨ms, c, k, q⟩ ⟨h1, h2, h3, h4, h5, h6⟩
  dsimp only at h1 h2 h3 h4 h5 h6 ⊢
  rcases Nat.lt_or_ge k ns.length with hlt | hge
  · have hc : decide ((k : Int) < ((inRs ns).length : Int)) = true := decide_eq_true (by omega)
    repeat' (first | (refine is_al ?_; (first | (refine is_move ?_; (first | refine al_v (opx_move (.raw _)) ⟨rfl, trivial⟩ trivial rfl ?_ | refine al_v (opx_move (.own _)) ⟨rfl, trivial⟩ trivial rfl ?_ | refine al_v (opx_move (.ref _ _)) ⟨rfl, trivial⟩ trivial rfl ?_)) | (refine is_bin ?_; (first | refine al_v opx_lss ⟨rfl, rfl, trivial⟩ trivial rfl ?_ | refine al_v (opx_add (by unfold InR; omega)) ⟨rfl, rfl, trivial⟩ trivial rfl ?_)) | (refine is_assign ?_; (first | refine al_v (opx_assign (.raw _)) ⟨rfl, trivial⟩ trivial rfl ?_ | refine al_v (opx_assign (.own _)) ⟨rfl, trivial⟩ trivial rfl ?_)) | (refine is_bi ?_; refine al_v opx_len_own ⟨rfl, trivial⟩ ⟨rfl, trivial⟩ rfl ?_) | (refine is_call ?_; (refine al_rdv 0 rfl rfl (by (repeat (first | exact .nil | refine .one rfl rfl ?_ | refine .tag rfl ?_ | refine .froz rfl rfl ?_ | refine .rnil rfl ?_ | refine .agg rfl (by (repeat (first | exact .nil | refine .cons (.same rfl) ?_ | refine .cons (.froz rfl) ?_ | refine .cons (.rnil) ?_)); (first | done | fail)) ?_)); (first | done | fail)) rfl (c_one _ _ _ hbs (by omega) (by simp)) ?_; rintro r3 q3 ⟨rfl, hr3⟩; simp at hr3)) | (refine is_bs ?_; refine al_pushI ⟨rfl, trivial⟩ rfl rfl rfl rfl rfl (by omega) ?_) | refine al_nil ?_ | refine al_litI [0, 1, 3, 10] (by (repeat (first | exact .nil _ | refine .cons rfl ?_)); (first | done | fail)) rfl rfl rfl ?_)) | (refine is_ad ?_; refine al_litI [0, 1, 3, 10] (by (repeat (first | exact .nil _ | refine .cons rfl ?_)); (first | done | fail)) rfl rfl rfl ?_) | (refine is_aw ?_; (first | refine aw_seq ?_ | refine aw_region ?_ | refine aw_skip ?_ | refine aw_block ?_ | (refine is_cond ?_; refine aw_cond_t rfl (by assumption) ?_))) | refine thn_n ?_)
    exact ⟨(ms ++ [c], _, k + 1, _), ⟨by simp; omega, (by first | omega | (dsimp only; omega) | (simp only [List.length_append, List.length_cons, List.length_nil]; omega) | (simp; omega)), (by first | omega | (dsimp only; omega) | (simp only [List.length_append, List.length_cons, List.length_nil]; omega) | (simp; omega)), (by first | omega | (dsimp only; omega) | (simp only [List.length_append, List.length_cons, List.length_nil]; omega) | (simp; omega)), (by first | omega | (dsimp only; omega) | (simp only [List.length_append, List.length_cons, List.length_nil]; omega) | (simp; omega)), (by first | omega | (dsimp only; omega) | (simp only [List.length_append, List.length_cons, List.length_nil]; omega) | (simp; omega))⟩, by simp; omega, le_mk [0, 1, 4] rfl rfl rfl rfl ⟨rfl, rfl, rfl, rfl, rfl, trivial⟩ ⟨rfl, rfl, rfl, trivial⟩⟩
  · have hc : decide ((k : Int) < ((inRs ns).length : Int)) = false := decide_eq_false (by omega)
    repeat' (first | (refine is_al ?_; (first | (refine is_move ?_; (first | refine al_v (opx_move (.raw _)) ⟨rfl, trivial⟩ trivial rfl ?_ | refine al_v (opx_move (.own _)) ⟨rfl, trivial⟩ trivial rfl ?_ | refine al_v (opx_move (.ref _ _)) ⟨rfl, trivial⟩ trivial rfl ?_)) | (refine is_bin ?_; refine al_v opx_lss ⟨rfl, rfl, trivial⟩ trivial rfl ?_) | (refine is_bi ?_; refine al_v opx_len_own ⟨rfl, trivial⟩ ⟨rfl, trivial⟩ rfl ?_) | refine al_nil ?_)) | (refine is_aw ?_; (first | refine aw_seq ?_ | refine aw_region ?_ | refine aw_exit ?_ | (refine is_cond ?_; refine aw_cond_f rfl (by assumption) ?_))))
    refine al_le (le_freeze 2 (wd := 1) (e := 3) (rows := inRs ms) rfl) ?_
    repeat' (first | (refine is_al ?_; (first | (refine is_move ?_; refine al_v (opx_move (.ref _ _)) ⟨rfl, trivial⟩ trivial rfl ?_) | (refine is_assign ?_; (first | refine al_v (opx_assign (.raw _)) ⟨rfl, trivial⟩ trivial rfl ?_ | refine al_v (opx_assign (.own _)) ⟨rfl, trivial⟩ trivial rfl ?_)) | (refine is_call ?_; (first | (refine al_rdr 0 rfl rfl (by (repeat (first | exact .nil | refine .one rfl rfl ?_ | refine .tag rfl ?_ | refine .froz rfl rfl ?_ | refine .rnil rfl ?_ | refine .agg rfl (by (repeat (first | exact .nil | refine .cons (.same rfl) ?_ | refine .cons (.froz rfl) ?_ | refine .cons (.rnil) ?_)); (first | done | fail)) ?_)); (first | done | fail)) rfl (c_spoil _ _ _ _ 11 hbs (by omega) (by omega) (by omega)) ?_; rintro _ q1 ⟨ms', rfl, f1, f2, f3⟩) | (refine al_rdv 0 rfl rfl (by (repeat (first | exact .nil | refine .one rfl rfl ?_ | refine .tag rfl ?_ | refine .froz rfl rfl ?_ | refine .rnil rfl ?_ | refine .agg rfl (by (repeat (first | exact .nil | refine .cons (.same rfl) ?_ | refine .cons (.froz rfl) ?_ | refine .cons (.rnil) ?_)); (first | done | fail)) ?_)); (first | done | fail)) rfl (c_one _ _ _ hbs (by omega) (by simp)) ?_; rintro r3 q3 ⟨rfl, hr3⟩; simp at hr3))) | refine al_nil ?_ | refine al_litI [50, 0, 100, 95, 10, 101, -1] (by (repeat (first | exact .nil _ | refine .cons rfl ?_)); (first | done | fail)) rfl rfl rfl ?_)) | (refine is_ad ?_; refine al_litI [50, 0, 100, 95, 10, 101, -1] (by (repeat (first | exact .nil _ | refine .cons rfl ?_)); (first | done | fail)) rfl rfl rfl ?_) | (refine is_aw ?_; refine aw_ret ?_))
    exact ret_row2_raw trivial rfl rfl rfl rfl rfl rfl ⟨ns, ms', _, rfl, rfl, by omega, by omega, by omega, by omega⟩
theorem c_drawBoundFor' (bs : List UInt8) (hb : bs.length ≤ 1048576) :
    Con Try.prog 16 [slB bs] [] (fun rs all => ∃ g : List Int × List Int × Int, rs = [slI g.1, slI g.2.1, rI g.2.2] ∧ all = [] ∧ noTags rs = true ∧ g.1.length ≤ 11 ∧ g.2.1.length ≤ 20 ∧ -1 ≤ g.2.2 ∧ g.2.2 ≤ 101) :=
  (c_drawBoundFor bs hb).froz fun rs all ⟨ns, ms, z, h1, h2, h3⟩ => by
    subst h1 h2
    exact ⟨⟨(ns, ms, z), rfl, rfl, rfl, h3⟩, rfl⟩

theorem c_fnBoundFor (bs : List UInt8) : Con Try.prog 7 [slB bs] [] (fun rs all => rs = [rB true] ∧ all = []) := by
  have hlen := byRs_len (bs := bs)
  refine con_of_aw (vars := [.tmp 2]) [(0, .r (slB bs))] [] 0 Try.func7 (by kernel_rfl) rfl Try.ntmps7 rfl (by decide) rfl rfl rfl rfl rfl ?_
  intro B M w0 ρ0 Z0
  repeat' (first | (refine is_al ?_; (first | (refine is_move ?_; (first | refine al_v (opx_move (.raw _)) ⟨rfl, trivial⟩ trivial rfl ?_ | refine al_v (opx_move (.sl _ _)) ⟨rfl, trivial⟩ trivial rfl ?_ | refine al_v (opx_move (.tup _)) ⟨rfl, trivial⟩ trivial rfl ?_)) | (refine is_bin ?_; refine al_v opx_gtr ⟨rfl, rfl, trivial⟩ trivial rfl ?_) | (refine is_assign ?_; (first | refine al_v (opx_assign (.raw _)) ⟨rfl, trivial⟩ trivial rfl ?_ | refine al_v (opx_assign (.sl _ _)) ⟨rfl, trivial⟩ trivial rfl ?_)) | (refine is_bi ?_; refine al_v opx_len_sl ⟨rfl, trivial⟩ trivial rfl ?_) | (refine is_call ?_; (refine al_callE (by (repeat (first | exact .nil | refine .one rfl rfl ?_ | refine .froz rfl rfl ?_ | refine .rnil rfl ?_ | refine .agg rfl (by (repeat (first | exact .nil | refine .cons (.same rfl) ?_ | refine .cons (.froz rfl) ?_ | refine .cons (.rnil) ?_)); (first | done | fail)) ?_)); (first | done | fail)) rfl (c_drawBoundFor' _ (by omega)) ?_; rintro ⟨ns, cs, pl⟩ ⟨h1, h2, h3, h4⟩; dsimp only at h1 h2 h3 h4 ⊢)) | refine al_v (opx_extract _ rfl) ⟨rfl, trivial⟩ trivial rfl ?_ | refine al_nil ?_)) | (refine is_aw ?_; (first | refine aw_seq ?_ | refine aw_region ?_ | refine aw_skip ?_ | refine aw_ret ?_ | (refine is_cond ?_; (refine aw_cond rfl ?_ ?_ <;> ((intro hgd; try exact absurd hgd (by decide)); (try (have hz := hgd; simp only [decide_eq_true_eq, decide_eq_false_iff_not, Bool.not_eq_true', Bool.not_eq_false', Bool.not_true, Bool.not_false, beq_iff_eq, Int.not_le, Int.not_lt] at hz)); (try (exfalso; omega))))))) | refine thn_r ?_)
  · exact ret_raw trivial rfl ⟨congrArg (fun b => [rB b]) (rfl), rfl⟩
  have hE1 : (!decide (bfI ns cs pl = bfI ns cs pl)) = false := by simp
  have hE2 : (!decide (bfB ns cs pl = bfB ns cs pl)) = false := by simp
  have hE3 : (bfB ns cs pl != bfB ns cs pl) = false := by simp
  have hE4 : decide (bfI ns cs pl = bfI ns cs pl) = true := by simp
  have hE5 : (bfB ns cs pl == bfB ns cs pl) = true := by simp
  have hE6 : decide (bfB ns cs pl = bfB ns cs pl) = true := by simp
  have hrn := inRs_len (ns := ns)
  have hrc := inRs_len (ns := cs)
  by_cases hv : bfB ns cs pl = true
  · have hn : (!bfB ns cs pl) = false := by rw [hv]; rfl
    obtain ⟨v1, v2, v3, v4, v5, v6⟩ := bfB_of hv
    have hv2 := bf_to (q := 100) hv (by omega)
    have hv3 := bf_to (q := min 100 (pl + 1)) hv (by omega)
    obtain ⟨n, hn1⟩ : ∃ n, cs.length = n + 1 := ⟨cs.length - 1, by omega⟩
    obtain ⟨z, hz, _⟩ := last_at hn1
    have hzr := inRs_at hz
    repeat' (first | (refine is_al ?_; (first | (refine is_gd ?_; refine al_on rfl rfl rfl (by assumption) ?_) | (refine is_move ?_; (first | refine al_v (opx_move (.raw _)) ⟨rfl, trivial⟩ trivial rfl ?_ | refine al_v (opx_move (.sl _ _)) ⟨rfl, trivial⟩ trivial rfl ?_ | refine al_v (opx_move (.tup _)) ⟨rfl, trivial⟩ trivial rfl ?_)) | (refine is_bin ?_; (first | refine al_v opx_neq ⟨rfl, rfl, trivial⟩ trivial rfl ?_ | refine al_v opx_bneq ⟨rfl, rfl, trivial⟩ trivial rfl ?_)) | (refine is_assign ?_; refine al_v (opx_assign (.raw _)) ⟨rfl, trivial⟩ trivial rfl ?_) | (refine is_pick ?_; refine al_v (opx_pick_f (.raw _) (by assumption)) ⟨rfl, rfl, trivial⟩ trivial rfl ?_) | (refine is_call ?_; (first | refine al_callv2 (by (repeat (first | exact .nil | refine .one rfl rfl ?_ | refine .froz rfl rfl ?_ | refine .row rfl rfl ?_ | refine .rnil rfl ?_ | refine .agg rfl (by (repeat (first | exact .nil | refine .cons (.same rfl) ?_ | refine .cons (.froz rfl) ?_ | refine .cons (.rnil) ?_ | refine .cons (.row rfl rfl) ?_)); (first | done | fail)) ?_)); (first | done | fail)) rfl (c_BoundFor _ _ _ (by omega) (by omega)) rfl ?_ | refine al_callv2 (by (repeat (first | exact .nil | refine .one rfl rfl ?_ | refine .froz rfl rfl ?_ | refine .row rfl rfl ?_ | refine .rnil rfl ?_ | refine .agg rfl (by (repeat (first | exact .nil | refine .cons (.same rfl) ?_ | refine .cons (.froz rfl) ?_ | refine .cons (.rnil) ?_ | refine .cons (.row rfl rfl) ?_)); (first | done | fail)) ?_)); (first | done | fail)) rfl (c_sBoundFor _ _ _ (by omega) (by omega)) rfl ?_)) | refine al_v opx_not ⟨rfl, trivial⟩ trivial rfl ?_ | refine al_v (opx_extract _ rfl) ⟨rfl, trivial⟩ trivial rfl ?_ | refine al_nil ?_)) | (refine is_aw ?_; (first | refine aw_seq ?_ | refine aw_region ?_ | refine aw_skip ?_ | refine aw_block ?_ | (refine is_cond ?_; refine aw_cond_f rfl (by assumption) ?_))))
    refine aw_loop (γ := Nat) (fun k => [(2, .b false), (3, .r (slI ns)), (4, .r (slI cs)), (5, .r (rI pl)), (6, .i (bfI ns cs pl)), (10, .i (bfI ns cs 100)), (11, .b (bfB ns cs 100)), (12, .i (k : Int))]) (fun _ => []) (fun _ => 0)
      (fun k => k ≤ ns.length) (fun k => ns.length - k) 0 (Nat.zero_le _) (le_mk [] rfl rfl rfl rfl ⟨rfl, rfl, rfl, rfl, rfl, rfl, rfl, rfl, trivial⟩ trivial) ?_
    intro k hk
    rcases Nat.lt_or_ge k ns.length with hlt | hge
    · have hc : decide ((k : Int) < ((inRs ns).length : Int)) = true := decide_eq_true (by omega)
      have hc2 : decide ((k : Int) < ((inRs cs).length : Int)) = true := decide_eq_true (by omega)
      obtain ⟨b, hb⟩ : ∃ b, ns[k]? = some b := ⟨_, List.getElem?_eq_getElem hlt⟩
      obtain ⟨c, hcc⟩ : ∃ c, cs[k]? = some c := ⟨_, List.getElem?_eq_getElem (by omega)⟩
      have hbr := inRs_at hb
      have hcr := inRs_at hcc
      by_cases he : b = bfI ns cs 100
      · obtain ⟨t1, t2⟩ := bf_top hv2 hn1 hz hb hcc he
        have g1 : decide (b = bfI ns cs 100) = true := decide_eq_true he
        have g2 : (!decide (c = z)) = false := by rw [decide_eq_true t1]; rfl
        by_cases h0 : 0 < k
        · have g3 : decide (0 < (k : Int)) = true := decide_eq_true (by omega)
          obtain ⟨d, hdd⟩ : ∃ d, cs[k - 1]? = some d := ⟨_, List.getElem?_eq_getElem (by omega)⟩
          have hdr := inRs_at hdd
          have g4 : decide (d = c) = false := decide_eq_false (t2 d h0 hdd)
          repeat' (first | (refine is_al ?_; (first | (refine is_gd ?_; refine al_on rfl rfl rfl (by assumption) ?_) | (refine is_move ?_; (first | refine al_v (opx_move (.raw _)) ⟨rfl, trivial⟩ trivial rfl ?_ | refine al_v (opx_move (.sl _ _)) ⟨rfl, trivial⟩ trivial rfl ?_)) | (refine is_bin ?_; (first | refine al_v opx_lss ⟨rfl, rfl, trivial⟩ trivial rfl ?_ | refine al_v (opx_add (by unfold InR; omega)) ⟨rfl, rfl, trivial⟩ trivial rfl ?_)) | (refine is_assign ?_; refine al_v (opx_assign (.raw _)) ⟨rfl, trivial⟩ trivial rfl ?_) | (refine is_pick ?_; refine al_v (opx_pick_t (.raw _) (by assumption)) ⟨rfl, rfl, trivial⟩ trivial rfl ?_) | (refine is_bi ?_; refine al_v opx_len_sl ⟨rfl, trivial⟩ trivial rfl ?_) | refine al_nil ?_)) | (refine is_ad ?_; (first | (refine isd_gd ?_; (first | (refine isd_move ?_; (first | refine ad_on rfl rfl (by assumption) (opx_move (.raw _)) ⟨rfl, trivial⟩ trivial rfl ?_ | refine ad_on rfl rfl (by assumption) (opx_move (.sl _ _)) ⟨rfl, trivial⟩ trivial rfl ?_)) | (refine isd_bin ?_; (first | refine ad_on rfl rfl (by assumption) opx_eql ⟨rfl, rfl, trivial⟩ trivial rfl ?_ | refine ad_on rfl rfl (by assumption) opx_neq ⟨rfl, rfl, trivial⟩ trivial rfl ?_ | refine ad_on rfl rfl (by assumption) opx_gtr ⟨rfl, rfl, trivial⟩ trivial rfl ?_ | refine ad_on rfl rfl (by assumption) (opx_sub (by unfold InR; omega)) ⟨rfl, rfl, trivial⟩ trivial rfl ?_)) | (refine isd_load ?_; refine ad_on rfl rfl (by assumption) opx_ld_imm ⟨rfl, trivial⟩ trivial rfl ?_) | (refine isd_pick ?_; (first | refine ad_on rfl rfl (by assumption) (opx_pick_t (.raw _) (by assumption)) ⟨rfl, rfl, trivial⟩ trivial rfl ?_ | refine ad_on rfl rfl (by assumption) (opx_pick_f (.raw _) (by assumption)) ⟨rfl, rfl, trivial⟩ trivial rfl ?_)) | (refine isd_bi ?_; refine ad_on rfl rfl (by assumption) opx_len_sl ⟨rfl, trivial⟩ trivial rfl ?_) | (refine isd_ia ?_; (first | refine ad_on rfl rfl (by assumption) (opx_ia_sl2 hcr (by omega)) ⟨rfl, rfl, trivial⟩ trivial rfl ?_ | refine ad_on rfl rfl (by assumption) (opx_ia_sl2 hzr (by omega)) ⟨rfl, rfl, trivial⟩ trivial rfl ?_ | refine ad_on rfl rfl (by assumption) (opx_ia_sl2 hdr (by omega)) ⟨rfl, rfl, trivial⟩ trivial rfl ?_)))) | (refine isd_move ?_; (first | refine ad_v (opx_move (.raw _)) ⟨rfl, trivial⟩ trivial rfl ?_ | refine ad_v (opx_move (.sl _ _)) ⟨rfl, trivial⟩ trivial rfl ?_)) | (refine isd_bin ?_; refine ad_v opx_eql ⟨rfl, rfl, trivial⟩ trivial rfl ?_) | (refine isd_load ?_; refine ad_v opx_ld_imm ⟨rfl, trivial⟩ trivial rfl ?_) | (refine isd_pick ?_; refine ad_v (opx_pick_t (.raw _) (by assumption)) ⟨rfl, rfl, trivial⟩ trivial rfl ?_) | (refine isd_ia ?_; refine ad_v (opx_ia_sl2 hbr (by omega)) ⟨rfl, rfl, trivial⟩ trivial rfl ?_) | refine ad_nil (by kernel_rfl) ?_)) | (refine is_aw ?_; (first | refine aw_seq ?_ | refine aw_region ?_ | refine aw_skip ?_ | refine aw_block ?_ | (refine is_cond ?_; (first | refine aw_cond_t rfl (by assumption) ?_ | refine aw_cond_f rfl (by assumption) ?_)) | refine aw_draw mixed ?_)) | refine thn_n ?_)
          exact ⟨k + 1, hlt, by omega, le_mk [] rfl rfl rfl rfl ⟨rfl, rfl, rfl, rfl, rfl, rfl, rfl, rfl, trivial⟩ trivial⟩
        · have g3 : decide (0 < (k : Int)) = false := decide_eq_false (by omega)
          repeat' (first | (refine is_al ?_; (first | (refine is_gd ?_; refine al_on rfl rfl rfl (by assumption) ?_) | (refine is_move ?_; (first | refine al_v (opx_move (.raw _)) ⟨rfl, trivial⟩ trivial rfl ?_ | refine al_v (opx_move (.sl _ _)) ⟨rfl, trivial⟩ trivial rfl ?_)) | (refine is_bin ?_; (first | refine al_v opx_lss ⟨rfl, rfl, trivial⟩ trivial rfl ?_ | refine al_v (opx_add (by unfold InR; omega)) ⟨rfl, rfl, trivial⟩ trivial rfl ?_)) | (refine is_assign ?_; refine al_v (opx_assign (.raw _)) ⟨rfl, trivial⟩ trivial rfl ?_) | (refine is_pick ?_; refine al_v (opx_pick_t (.raw _) (by assumption)) ⟨rfl, rfl, trivial⟩ trivial rfl ?_) | (refine is_bi ?_; refine al_v opx_len_sl ⟨rfl, trivial⟩ trivial rfl ?_) | refine al_nil ?_)) | (refine is_ad ?_; (first | (refine isd_gd ?_; (first | refine ad_off rfl rfl (by assumption) rfl ?_ | (refine isd_move ?_; (first | refine ad_on rfl rfl (by assumption) (opx_move (.raw _)) ⟨rfl, trivial⟩ trivial rfl ?_ | refine ad_on rfl rfl (by assumption) (opx_move (.sl _ _)) ⟨rfl, trivial⟩ trivial rfl ?_)) | (refine isd_bin ?_; (first | refine ad_on rfl rfl (by assumption) opx_neq ⟨rfl, rfl, trivial⟩ trivial rfl ?_ | refine ad_on rfl rfl (by assumption) opx_gtr ⟨rfl, rfl, trivial⟩ trivial rfl ?_ | refine ad_on rfl rfl (by assumption) (opx_sub (by unfold InR; omega)) ⟨rfl, rfl, trivial⟩ trivial rfl ?_)) | (refine isd_load ?_; refine ad_on rfl rfl (by assumption) opx_ld_imm ⟨rfl, trivial⟩ trivial rfl ?_) | (refine isd_pick ?_; refine ad_on rfl rfl (by assumption) (opx_pick_f (.raw _) (by assumption)) ⟨rfl, rfl, trivial⟩ trivial rfl ?_) | (refine isd_bi ?_; refine ad_on rfl rfl (by assumption) opx_len_sl ⟨rfl, trivial⟩ trivial rfl ?_) | (refine isd_ia ?_; (first | refine ad_on rfl rfl (by assumption) (opx_ia_sl2 hcr (by omega)) ⟨rfl, rfl, trivial⟩ trivial rfl ?_ | refine ad_on rfl rfl (by assumption) (opx_ia_sl2 hzr (by omega)) ⟨rfl, rfl, trivial⟩ trivial rfl ?_)))) | (refine isd_move ?_; (first | refine ad_v (opx_move (.raw _)) ⟨rfl, trivial⟩ trivial rfl ?_ | refine ad_v (opx_move (.sl _ _)) ⟨rfl, trivial⟩ trivial rfl ?_)) | (refine isd_bin ?_; refine ad_v opx_eql ⟨rfl, rfl, trivial⟩ trivial rfl ?_) | (refine isd_load ?_; refine ad_v opx_ld_imm ⟨rfl, trivial⟩ trivial rfl ?_) | (refine isd_pick ?_; refine ad_v (opx_pick_t (.raw _) (by assumption)) ⟨rfl, rfl, trivial⟩ trivial rfl ?_) | (refine isd_ia ?_; refine ad_v (opx_ia_sl2 hbr (by omega)) ⟨rfl, rfl, trivial⟩ trivial rfl ?_) | refine ad_nil (by kernel_rfl) ?_)) | (refine is_aw ?_; (first | refine aw_seq ?_ | refine aw_region ?_ | refine aw_skip ?_ | refine aw_block ?_ | (refine is_cond ?_; (first | refine aw_cond_f rfl rfl ?_ | refine aw_cond_t rfl (by assumption) ?_)) | refine aw_draw mixed ?_)) | refine thn_n ?_)
          exact ⟨k + 1, hlt, by omega, le_mk [] rfl rfl rfl rfl ⟨rfl, rfl, rfl, rfl, rfl, rfl, rfl, rfl, trivial⟩ trivial⟩
      · have g1 : decide (b = bfI ns cs 100) = false := decide_eq_false he
        repeat' (first | (refine is_al ?_; (first | (refine is_gd ?_; refine al_on rfl rfl rfl (by assumption) ?_) | (refine is_move ?_; (first | refine al_v (opx_move (.raw _)) ⟨rfl, trivial⟩ trivial rfl ?_ | refine al_v (opx_move (.sl _ _)) ⟨rfl, trivial⟩ trivial rfl ?_)) | (refine is_bin ?_; (first | refine al_v opx_lss ⟨rfl, rfl, trivial⟩ trivial rfl ?_ | refine al_v (opx_add (by unfold InR; omega)) ⟨rfl, rfl, trivial⟩ trivial rfl ?_)) | (refine is_assign ?_; refine al_v (opx_assign (.raw _)) ⟨rfl, trivial⟩ trivial rfl ?_) | (refine is_pick ?_; refine al_v (opx_pick_t (.raw _) (by assumption)) ⟨rfl, rfl, trivial⟩ trivial rfl ?_) | (refine is_bi ?_; refine al_v opx_len_sl ⟨rfl, trivial⟩ trivial rfl ?_) | refine al_nil ?_)) | (refine is_ad ?_; (first | (refine isd_gd ?_; (first | refine ad_off rfl rfl (by assumption) rfl ?_ | refine ad_off2 rfl rfl rfl ?_)) | (refine isd_move ?_; (first | refine ad_v (opx_move (.raw _)) ⟨rfl, trivial⟩ trivial rfl ?_ | refine ad_v (opx_move (.sl _ _)) ⟨rfl, trivial⟩ trivial rfl ?_)) | (refine isd_bin ?_; refine ad_v opx_eql ⟨rfl, rfl, trivial⟩ trivial rfl ?_) | (refine isd_load ?_; refine ad_v opx_ld_imm ⟨rfl, trivial⟩ trivial rfl ?_) | (refine isd_pick ?_; refine ad_v (opx_pick_f (.raw _) (by assumption)) ⟨rfl, rfl, trivial⟩ trivial rfl ?_) | (refine isd_ia ?_; refine ad_v (opx_ia_sl2 hbr (by omega)) ⟨rfl, rfl, trivial⟩ trivial rfl ?_) | refine ad_nil (by kernel_rfl) ?_)) | (refine is_aw ?_; (first | refine aw_seq ?_ | refine aw_region ?_ | refine aw_skip ?_ | refine aw_block ?_ | (refine is_cond ?_; (first | refine aw_cond_f rfl rfl ?_ | refine aw_cond_t rfl (by assumption) ?_)) | refine aw_draw mixed ?_)) | refine thn_n ?_)
        exact ⟨k + 1, hlt, by omega, le_mk [] rfl rfl rfl rfl ⟨rfl, rfl, rfl, rfl, rfl, rfl, rfl, rfl, trivial⟩ trivial⟩
    · have hc : decide ((k : Int) < ((inRs ns).length : Int)) = false := decide_eq_false (by omega)
      have m1 := bf_mono hv hv3 (by omega)
      have m2 := bf_mono hv hv2 (by omega)
      have m3 := bf_in hv
      have m4 : decide (bfI ns cs pl ≤ bfI ns cs (min 100 (pl + 1))) = true := decide_eq_true m1
      repeat' (first | (refine is_al ?_; (first | (refine is_gd ?_; (first | refine al_on rfl rfl rfl (by assumption) ?_ | refine al_off rfl rfl rfl (by assumption) rfl ?_)) | (refine is_move ?_; (first | refine al_v (opx_move (.raw _)) ⟨rfl, trivial⟩ trivial rfl ?_ | refine al_v (opx_move (.sl _ _)) ⟨rfl, trivial⟩ trivial rfl ?_ | refine al_v (opx_move (.tup _)) ⟨rfl, trivial⟩ trivial rfl ?_)) | (refine is_bin ?_; (first | refine al_v opx_lss ⟨rfl, rfl, trivial⟩ trivial rfl ?_ | refine al_v opx_leq ⟨rfl, rfl, trivial⟩ trivial rfl ?_ | refine al_v opx_geq ⟨rfl, rfl, trivial⟩ trivial rfl ?_ | refine al_v (opx_add (by unfold InR; omega)) ⟨rfl, rfl, trivial⟩ trivial rfl ?_)) | (refine is_assign ?_; refine al_v (opx_assign (.raw _)) ⟨rfl, trivial⟩ trivial rfl ?_) | (refine is_pick ?_; (first | refine al_v (opx_pick_t (.raw _) (by assumption)) ⟨rfl, rfl, trivial⟩ trivial rfl ?_ | refine al_v (opx_pick_f (.raw _) (by assumption)) ⟨rfl, rfl, trivial⟩ trivial rfl ?_)) | (refine is_bi ?_; (first | refine al_v opx_len_sl ⟨rfl, trivial⟩ trivial rfl ?_ | refine al_v opx_min2 ⟨rfl, rfl, trivial⟩ trivial rfl ?_)) | (refine is_call ?_; (first | refine al_callv2 (by (repeat (first | exact .nil | refine .one rfl rfl ?_ | refine .froz rfl rfl ?_ | refine .row rfl rfl ?_ | refine .rnil rfl ?_ | refine .agg rfl (by (repeat (first | exact .nil | refine .cons (.same rfl) ?_ | refine .cons (.froz rfl) ?_ | refine .cons (.rnil) ?_ | refine .cons (.row rfl rfl) ?_)); (first | done | fail)) ?_)); (first | done | fail)) rfl (c_BoundFor _ _ _ (by omega) (by omega)) rfl ?_ | refine al_callv2 (by (repeat (first | exact .nil | refine .one rfl rfl ?_ | refine .froz rfl rfl ?_ | refine .row rfl rfl ?_ | refine .rnil rfl ?_ | refine .agg rfl (by (repeat (first | exact .nil | refine .cons (.same rfl) ?_ | refine .cons (.froz rfl) ?_ | refine .cons (.rnil) ?_ | refine .cons (.row rfl rfl) ?_)); (first | done | fail)) ?_)); (first | done | fail)) rfl (c_isIn _ _ (by omega)) rfl ?_)) | refine al_v (opx_extract _ rfl) ⟨rfl, trivial⟩ trivial rfl ?_ | refine al_nil ?_)) | (refine is_aw ?_; (first | refine aw_seq ?_ | refine aw_region ?_ | refine aw_ret ?_ | refine aw_exit ?_ | (refine is_cond ?_; refine aw_cond_f rfl rfl ?_))))
      exact ret_raw trivial rfl ⟨congrArg (fun b => [rB b]) (decide_eq_true m2), rfl⟩
  · have hf : bfB ns cs pl = false := by simpa using hv
    have hn : (!bfB ns cs pl) = true := by rw [hf]; rfl
    repeat' (first | (refine is_al ?_; (first | (refine is_gd ?_; refine al_on rfl rfl rfl (by assumption) ?_) | (refine is_move ?_; (first | refine al_v (opx_move (.raw _)) ⟨rfl, trivial⟩ trivial rfl ?_ | refine al_v (opx_move (.sl _ _)) ⟨rfl, trivial⟩ trivial rfl ?_ | refine al_v (opx_move (.tup _)) ⟨rfl, trivial⟩ trivial rfl ?_)) | (refine is_bin ?_; (first | refine al_v opx_eql ⟨rfl, rfl, trivial⟩ trivial rfl ?_ | refine al_v opx_neq ⟨rfl, rfl, trivial⟩ trivial rfl ?_ | refine al_v opx_beql ⟨rfl, rfl, trivial⟩ trivial rfl ?_ | refine al_v opx_bneq ⟨rfl, rfl, trivial⟩ trivial rfl ?_)) | (refine is_assign ?_; refine al_v (opx_assign (.raw _)) ⟨rfl, trivial⟩ trivial rfl ?_) | (refine is_pick ?_; (first | refine al_v (opx_pick_t (.raw _) (by assumption)) ⟨rfl, rfl, trivial⟩ trivial rfl ?_ | refine al_v (opx_pick_f (.raw _) (by assumption)) ⟨rfl, rfl, trivial⟩ trivial rfl ?_)) | (refine is_call ?_; (first | refine al_callv2 (by (repeat (first | exact .nil | refine .one rfl rfl ?_ | refine .froz rfl rfl ?_ | refine .row rfl rfl ?_ | refine .rnil rfl ?_ | refine .agg rfl (by (repeat (first | exact .nil | refine .cons (.same rfl) ?_ | refine .cons (.froz rfl) ?_ | refine .cons (.rnil) ?_ | refine .cons (.row rfl rfl) ?_)); (first | done | fail)) ?_)); (first | done | fail)) rfl (c_BoundFor _ _ _ (by omega) (by omega)) rfl ?_ | refine al_callv2 (by (repeat (first | exact .nil | refine .one rfl rfl ?_ | refine .froz rfl rfl ?_ | refine .row rfl rfl ?_ | refine .rnil rfl ?_ | refine .agg rfl (by (repeat (first | exact .nil | refine .cons (.same rfl) ?_ | refine .cons (.froz rfl) ?_ | refine .cons (.rnil) ?_ | refine .cons (.row rfl rfl) ?_)); (first | done | fail)) ?_)); (first | done | fail)) rfl (c_sBoundFor _ _ _ (by omega) (by omega)) rfl ?_)) | refine al_v opx_not ⟨rfl, trivial⟩ trivial rfl ?_ | refine al_v (opx_extract _ rfl) ⟨rfl, trivial⟩ trivial rfl ?_ | refine al_nil ?_)) | (refine is_aw ?_; (first | refine aw_seq ?_ | refine aw_region ?_ | refine aw_ret ?_ | (refine is_cond ?_; refine aw_cond_t rfl (by assumption) ?_))) | refine thn_r ?_)
    exact ret_raw trivial rfl ⟨congrArg (fun b => [rB b]) (by simp), rfl⟩
end Go.Proofs.Ytmdlgeimcdpgaaa
