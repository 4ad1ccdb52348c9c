/-
  Labels that are drawn: the walks.
-/
import Derived.Test.YtllgddednlfhfaaDoorW63
import Derived.Test.YtllgddednlfhfaaDoorW28
import Derived.Test.YtllgddednlfhfaaDoorEng31
namespace Go.Proofs.YtllgddednlfhfaaDoor
open Go.RowKit
set_option linter.unusedVariables false
set_option linter.unusedSimpArgs false
attribute [local irreducible] AL AW OpX Le AD

def ofV (bs : List UInt8) (p : Int) (ss : List Str) : Str := ss.getD (pkV bs p ss.length).toNat []
theorem ofV_mem {bs : List UInt8} {p : Int} {ss : List Str} (hb : bs.length ≤ 1048576) (hp : 0 ≤ p ∧ p ≤ 1099511627776) (hn : 1 ≤ ss.length) : ofV bs p ss ∈ ss := by
  obtain ⟨h1, h2, _⟩ := pkV_ok (n := (ss.length : Int)) hb hp
  have h2 := h2 (by omega)
  rw [ofV, List.getD, List.getElem?_eq_getElem (show (pkV bs p ss.length).toNat < ss.length by omega)]
  exact List.getElem_mem _
theorem c_ofX (bs : List UInt8) (p : Int) (ss : List Str) (hb : bs.length ≤ 1048576) (hp : 0 ≤ p ∧ p ≤ 1099511627776) (hn : 1 ≤ ss.length ∧ ss.length ≤ 100) :
    Con Tryd.prog 57 [rdA, slS ss] [rdO bs p] (fun rs all => rs = [rStr (ofV bs p ss)] ∧ all = [rdO bs (p + 1)]) := by
  have hlen := stRs_len (xs := ss)
  obtain ⟨k1, k2, _⟩ := pkV_ok (n := (ss.length : Int)) hb hp
  have k2 := k2 (by omega)
  obtain ⟨k, hk⟩ : ∃ k : Nat, pkV bs p (ss.length : Int) = (k : Int) := ⟨(pkV bs p (ss.length : Int)).toNat, by omega⟩
  obtain ⟨x, hx⟩ : ∃ x, ss[k]? = some x := ⟨_, List.getElem?_eq_getElem (by omega)⟩
  have hxr := stRs_at hx
  have e : ofV bs p ss = x := by rw [ofV, hk, Int.toNat_natCast, List.getD, hx]; rfl
  refine con_of_aw (vars := [.tmp 4]) [(0, .ref 0 0), (1, .r (slS ss))] [(0, rdO bs p)] 1 Tryd.func57 (by kernel_rfl) rfl Tryd.ntmps57 rfl (by decide) rfl rfl rfl rfl rfl ?_; intro B M w0 ρ0 Z0
  rw [← hlen] at hk
  repeat' (first | (refine is_al ?_; (first | (refine is_move ?_; (first | refine al_v (opx_move (.sl _ _)) ⟨rfl, trivial⟩ trivial rfl ?_ | refine al_v (opx_move (.ref _ _)) ⟨rfl, trivial⟩ trivial rfl ?_)) | (refine is_load ?_; refine al_v opx_ld_imm ⟨rfl, trivial⟩ trivial rfl ?_) | (refine is_assign ?_; refine al_v (opx_assign (.raw _)) ⟨rfl, trivial⟩ trivial rfl ?_) | (refine is_bi ?_; refine al_v opx_len_sl ⟨rfl, trivial⟩ trivial rfl ?_) | (refine is_ia ?_; refine al_v (opx_ia_sl2 hxr (by omega)) ⟨rfl, rfl, trivial⟩ trivial rfl ?_) | (refine is_call ?_; (refine al_rdv 0 rfl rfl (by (repeat (first | exact .nil | refine .one rfl rfl ?_ | refine .tag rfl ?_ | refine .froz rfl rfl ?_ | refine .rnil rfl ?_ | refine .agg rfl (by (repeat (first | exact .nil | refine .cons (.same rfl) ?_ | refine .cons (.froz rfl) ?_ | refine .cons (.rnil) ?_)); (first | done | fail)) ?_)); (first | done | fail)) rfl (c_pickQ _ _ _ hb hp (by omega)) ?_; rintro r q ⟨rfl, rfl⟩)) | refine al_nil ?_)) | (refine is_aw ?_; (first | refine aw_seq ?_ | refine aw_region ?_ | refine aw_ret ?_)))
  exact retm_raw trivial rfl rfl rfl ⟨by rw [e], rfl⟩
theorem c_of (bs : List UInt8) (p : Int) (ss : List Str) (hb : bs.length ≤ 1048576) (hp : 0 ≤ p ∧ p ≤ 1099511627776) (hn : 1 ≤ ss.length ∧ ss.length ≤ 100) :
    Con Tryd.prog 57 [rdA, slS ss] [rdO bs p] (RdG bs (fun s : Str => [rStr s]) fun s q => q = p + 1 ∧ s ∈ ss) :=
  (c_ofX bs p ss hb hp hn).mono fun rs all ⟨h1, h2⟩ => ⟨_, _, h1, h2, rfl, rfl, ofV_mem hb hp hn.1⟩
abbrev nm8 : List Str := [[97], [104, 111, 115, 116], [106, 111, 98], [122, 111, 110, 101], [122, 122], [122, 122, 122, 122, 122], [], [122, 65]]
abbrev smL (x : Lb) : Prop := x.1.length ≤ 5 ∧ x.2.length ≤ 5 ∧ x.1 ∈ nm8
theorem c_someLabels (bs : List UInt8) (p : Int) (hb : bs.length ≤ 1048576) (hp : 0 ≤ p ∧ p ≤ 1099511627000) :
    Con Tryd.prog 45 [rdA] [rdO bs p] (RdR bs 2 52 fun rows q => ∃ l : List Lb, rows = lbRs l ∧ p ≤ q ∧ q ≤ p + 8 ∧ l.length ≤ 4 ∧ ∀ x ∈ l, smL x) := by
  refine con_of_aw (vars := [.tmp 2]) [(0, .ref 0 0)] [(0, rdO bs p)] 1 Tryd.func45 (by kernel_rfl) rfl Tryd.ntmps45 rfl (by decide) rfl rfl rfl rfl rfl ?_; intro B M w0 ρ0 Z0
  repeat' (first | (refine is_al ?_; (first | (refine is_assign ?_; (first | refine al_v (opx_assign (.raw _)) ⟨rfl, trivial⟩ trivial rfl ?_ | refine al_v (opx_assign (.sl _ _)) ⟨rfl, trivial⟩ trivial rfl ?_ | refine al_v (opx_assign (.own _)) ⟨rfl, trivial⟩ trivial rfl ?_)) | (refine is_bs ?_; refine al_n opx_lit0 trivial trivial rfl ?_) | refine al_nil ?_ | refine al_litS [[97], [104, 111, 115, 116], [106, 111, 98], [122, 111, 110, 101]] (by (repeat (first | exact .nil _ | refine .cons rfl ?_)); (first | done | fail)) rfl rfl rfl ?_)) | (refine is_ad ?_; refine al_litS [[97], [104, 111, 115, 116], [106, 111, 98], [122, 111, 110, 101]] (by (repeat (first | exact .nil _ | refine .cons rfl ?_)); (first | done | fail)) rfl rfl rfl ?_) | (refine is_aw ?_; (first | refine aw_seq ?_ | refine aw_region ?_ | refine aw_block ?_)))
  refine aw_loop (γ := List Lb × Nat × Int) (fun g => [(0, .ref 0 0), (2, .raw (.slice none 0 0)), (3, .own 1), (4, .sl 1 (stRs [[97], [104, 111, 115, 116], [106, 111, 98], [122, 111, 110, 101]])), (5, .i (g.2.1 : Int))]) (fun g => [(0, rdO bs g.2.2), (1, .row 2 52 (lbRs g.1))]) (fun _ => 2)
    (fun g => p ≤ g.2.2 ∧ g.2.2 ≤ p + 2 * g.2.1 ∧ g.1.length ≤ g.2.1 ∧ g.2.1 ≤ 4 ∧ ∀ x ∈ g.1, smL x) (fun g => 4 - g.2.1) ([], 0, p) ⟨by dsimp only; omega, by dsimp only; omega, Nat.le_refl _, Nat.zero_le _, fun x hx => by cases hx⟩ (le_mk [0, 1] rfl rfl rfl rfl ⟨rfl, rfl, rfl, rfl, rfl, trivial⟩ ⟨rfl, rfl, trivial⟩) ?_
  rintro ⟨l, k, q⟩ ⟨h1, h2, h3, h4, h5⟩
  dsimp only at h1 h2 h3 h4 h5 ⊢
  have hk4 : ((stRs [[97], [104, 111, 115, 116], [106, 111, 98], [122, 111, 110, 101]]).length : Int) = 4 := rfl
  rcases Nat.lt_or_ge k 4 with hlt | hge
  · have hc1 : decide ((k : Int) < ((stRs [[97], [104, 111, 115, 116], [106, 111, 98], [122, 111, 110, 101]]).length : Int)) = true := decide_eq_true (by omega)
    obtain ⟨nm, hn1, hn2, hn3⟩ : ∃ nm : Str, [[97], [104, 111, 115, 116], [106, 111, 98], [122, 111, 110, 101]][k]? = some nm ∧ nm.length ≤ 5 ∧ nm ∈ nm8 := by
      match k, hlt with
      | 0, _ => exact ⟨_, rfl, by decide, by decide⟩
      | 1, _ => exact ⟨_, rfl, by decide, by decide⟩
      | 2, _ => exact ⟨_, rfl, by decide, by decide⟩
      | 3, _ => exact ⟨_, rfl, by decide, by decide⟩
    have hnr := stRs_at hn1
    have hof : (ofV bs (q + 1) [[120], [121], [117, 112], [120]]).length ≤ 5 := by
      have := ofV_mem (bs := bs) (p := q + 1) (ss := [[120], [121], [117, 112], [120]]) hb (by omega) (by simp)
      simp only [List.mem_cons, List.not_mem_nil, or_false] at this
      rcases this with h | h | h | h <;> rw [h] <;> decide
    repeat' (first | (refine is_al ?_; (first | (refine is_move ?_; (first | refine al_v (opx_move (.raw _)) ⟨rfl, trivial⟩ trivial rfl ?_ | refine al_v (opx_move (.sl _ _)) ⟨rfl, trivial⟩ trivial rfl ?_ | refine al_v (opx_move (.ref _ _)) ⟨rfl, trivial⟩ trivial rfl ?_)) | (refine is_bin ?_; (first | refine al_v opx_eql ⟨rfl, rfl, trivial⟩ trivial rfl ?_ | refine al_v opx_lss ⟨rfl, rfl, trivial⟩ trivial rfl ?_ | refine al_v (opx_add (by unfold InR; omega)) ⟨rfl, rfl, trivial⟩ trivial rfl ?_)) | (refine is_assign ?_; refine al_v (opx_assign (.raw _)) ⟨rfl, trivial⟩ trivial rfl ?_) | (refine is_bi ?_; refine al_v opx_len_sl ⟨rfl, trivial⟩ trivial rfl ?_) | (refine is_call ?_; (refine al_rdv 0 rfl rfl (by (repeat (first | exact .nil | refine .one rfl rfl ?_ | refine .tag rfl ?_ | refine .froz rfl rfl ?_ | refine .rnil rfl ?_ | refine .agg rfl (by (repeat (first | exact .nil | refine .cons (.same rfl) ?_ | refine .cons (.froz rfl) ?_ | refine .cons (.rnil) ?_)); (first | done | fail)) ?_)); (first | done | fail)) rfl (c_pick _ _ _ hb (by omega) (by omega)) ?_; rintro r q2 ⟨rfl, ha1, ha2, ha3⟩)) | refine al_nil ?_ | refine ad_litS [[120], [121], [117, 112], [120]] (by (repeat (first | exact .nil _ | refine .cons rfl ?_)); (first | done | fail)) rfl rfl rfl ?_)) | (refine is_ad ?_; (first | (refine isd_move ?_; (first | refine ad_v (opx_move (.raw _)) ⟨rfl, trivial⟩ trivial rfl ?_ | refine ad_v (opx_move (.sl _ _)) ⟨rfl, trivial⟩ trivial rfl ?_ | refine ad_v (opx_move (.own _)) ⟨rfl, trivial⟩ trivial rfl ?_ | refine ad_v (opx_move (.ref _ _)) ⟨rfl, trivial⟩ trivial rfl ?_)) | (refine isd_load ?_; refine ad_v opx_ld_imm ⟨rfl, trivial⟩ trivial rfl ?_) | (refine isd_assign ?_; refine ad_v (opx_assign (.own _)) ⟨rfl, trivial⟩ trivial rfl ?_) | (refine isd_ia ?_; refine ad_v (opx_ia_sl2 hnr (by omega)) ⟨rfl, rfl, trivial⟩ trivial rfl ?_) | refine ad_v (opx_build2 (res := [_, _]) rfl) ⟨rfl, rfl, trivial⟩ trivial rfl ?_ | (refine isd_bs ?_; refine ad_pushL ⟨rfl, trivial⟩ rfl rfl rfl rfl rfl (by omega) ?_) | (refine isd_call ?_; refine ad_rd 0 rfl (by (repeat (first | exact .nil | refine .one rfl rfl ?_ | refine .tag rfl ?_ | refine .froz rfl rfl ?_ | refine .rnil rfl ?_)); (first | done | fail)) rfl (c_ofX _ _ _ hb (by omega) (by simp)) rfl ?_) | refine ad_nil (by kernel_rfl) ?_ | refine ad_litS [[120], [121], [117, 112], [120]] (by (repeat (first | exact .nil _ | refine .cons rfl ?_)); (first | done | fail)) rfl rfl rfl ?_)) | (refine is_aw ?_; (first | refine aw_seq ?_ | refine aw_region ?_ | refine aw_skip ?_ | refine aw_block ?_ | (refine is_cond ?_; (first | refine aw_cond_t rfl (by assumption) ?_ | (refine aw_cond rfl ?_ ?_ <;> ((intro hgd; try exact absurd hgd (by decide)); (try (have hz := hgd; simp only [decide_eq_true_eq, decide_eq_false_iff_not, Bool.not_eq_true', Bool.not_eq_false', Bool.not_true, Bool.not_false, beq_iff_eq, Int.not_le, Int.not_lt] at hz)); (try (exfalso; omega)))))) | refine aw_draw mixed ?_)) | refine thn_n ?_)
    · exact ⟨(l ++ [(nm, ofV bs (q + 1) [[120], [121], [117, 112], [120]])], k + 1, q + 1 + 1), ⟨(by first | omega | (dsimp only; omega) | (simp only [List.length_append, List.length_cons, List.length_nil]; omega) | (simp; omega)), (by first | omega | (dsimp only; omega) | (simp only [List.length_append, List.length_cons, List.length_nil]; omega) | (simp; omega)), (by first | omega | (dsimp only; omega) | (simp only [List.length_append, List.length_cons, List.length_nil]; omega) | (simp; omega)), (by first | omega | (dsimp only; omega) | (simp only [List.length_append, List.length_cons, List.length_nil]; omega) | (simp; omega)), all_snoc h5 ⟨hn2, hof, hn3⟩⟩, (by first | omega | (dsimp only; omega) | (simp only [List.length_append, List.length_cons, List.length_nil]; omega) | (simp; omega)), le_mk [0, _] rfl rfl rfl rfl ⟨rfl, rfl, rfl, rfl, rfl, trivial⟩ ⟨rfl, rfl, trivial⟩⟩
    · exact ⟨(l, k + 1, q + 1), ⟨(by first | omega | (dsimp only; omega) | (simp only [List.length_append, List.length_cons, List.length_nil]; omega) | (simp; omega)), (by first | omega | (dsimp only; omega) | (simp only [List.length_append, List.length_cons, List.length_nil]; omega) | (simp; omega)), (by first | omega | (dsimp only; omega) | (simp only [List.length_append, List.length_cons, List.length_nil]; omega) | (simp; omega)), (by first | omega | (dsimp only; omega) | (simp only [List.length_append, List.length_cons, List.length_nil]; omega) | (simp; omega)), h5⟩, (by first | omega | (dsimp only; omega) | (simp only [List.length_append, List.length_cons, List.length_nil]; omega) | (simp; omega)), le_mk [0, 1] rfl rfl rfl rfl ⟨rfl, rfl, rfl, rfl, rfl, trivial⟩ ⟨rfl, rfl, trivial⟩⟩
  · have hc1 : decide ((k : Int) < ((stRs [[97], [104, 111, 115, 116], [106, 111, 98], [122, 111, 110, 101]]).length : Int)) = false := decide_eq_false (by omega)
    repeat' (first | (refine is_al ?_; (first | (refine is_move ?_; (first | refine al_v (opx_move (.raw _)) ⟨rfl, trivial⟩ trivial rfl ?_ | refine al_v (opx_move (.sl _ _)) ⟨rfl, trivial⟩ trivial rfl ?_ | refine al_v (opx_move (.own _)) ⟨rfl, trivial⟩ trivial rfl ?_)) | (refine is_bin ?_; refine al_v opx_lss ⟨rfl, rfl, trivial⟩ trivial rfl ?_) | (refine is_assign ?_; refine al_v (opx_assign (.own _)) ⟨rfl, trivial⟩ trivial rfl ?_) | (refine is_bi ?_; refine al_v opx_len_sl ⟨rfl, trivial⟩ trivial rfl ?_) | refine al_nil ?_)) | (refine is_aw ?_; (first | refine aw_seq ?_ | refine aw_region ?_ | refine aw_ret ?_ | refine aw_exit ?_ | (refine is_cond ?_; refine aw_cond_f rfl (by assumption) ?_))))
    exact retm_row trivial rfl rfl rfl rfl rfl ⟨_, _, rfl, rfl, l, rfl, by omega, by omega, by omega, h5⟩
theorem c_anyLabels (bs : List UInt8) (p : Int) (hb : bs.length ≤ 1048576) (hp : 0 ≤ p ∧ p ≤ 1099511626000) :
    Con Tryd.prog 36 [rdA] [rdO bs p] (RdR bs 2 52 fun rows q => ∃ l : List Lb, rows = lbRs l ∧ p ≤ q ∧ q ≤ p + 20 ∧ l.length ≤ 5 ∧ ∀ x ∈ l, smL x) := by
  refine con_of_aw (vars := [.tmp 2]) [(0, .ref 0 0)] [(0, rdO bs p)] 1 Tryd.func36 (by kernel_rfl) rfl Tryd.ntmps36 rfl (by decide) rfl rfl rfl rfl rfl ?_; intro B M w0 ρ0 Z0
  have m1 : ∀ s ∈ ([[97], [122, 122], [122, 122, 122, 122, 122], [], [122, 65]] : List Str), s.length ≤ 5 ∧ s ∈ nm8 := by decide
  have m2 : ∀ s ∈ ([[120], [], [120, 120, 120, 120, 120], [49]] : List Str), s.length ≤ 5 := by decide
  repeat' (first | (refine is_al ?_; (first | (refine is_move ?_; (first | refine al_v (opx_move (.own _)) ⟨rfl, trivial⟩ trivial rfl ?_ | refine al_v (opx_move (.ref _ _)) ⟨rfl, trivial⟩ trivial rfl ?_)) | (refine is_bin ?_; refine al_v opx_eql ⟨rfl, rfl, trivial⟩ trivial rfl ?_) | (refine is_assign ?_; (first | refine al_v (opx_assign (.raw _)) ⟨rfl, trivial⟩ trivial rfl ?_ | refine al_v (opx_assign (.own _)) ⟨rfl, trivial⟩ trivial rfl ?_)) | (refine is_call ?_; (first | (refine al_rdr 0 rfl rfl (by (repeat (first | exact .nil | refine .one rfl rfl ?_ | refine .tag rfl ?_ | refine .froz rfl rfl ?_ | refine .rnil rfl ?_ | refine .agg rfl (by (repeat (first | exact .nil | refine .cons (.same rfl) ?_ | refine .cons (.froz rfl) ?_ | refine .cons (.rnil) ?_)); (first | done | fail)) ?_)); (first | done | fail)) rfl (c_someLabels _ _ hb (by omega)) ?_; rintro _ q1 ⟨l, rfl, h1, h2, h3, h4⟩) | (refine al_rdv 0 rfl rfl (by (repeat (first | exact .nil | refine .one rfl rfl ?_ | refine .tag rfl ?_ | refine .froz rfl rfl ?_ | refine .rnil rfl ?_ | refine .agg rfl (by (repeat (first | exact .nil | refine .cons (.same rfl) ?_ | refine .cons (.froz rfl) ?_ | refine .cons (.rnil) ?_)); (first | done | fail)) ?_)); (first | done | fail)) rfl (c_pick _ _ _ hb (by omega) (by omega)) ?_; rintro r q2 ⟨rfl, ha1, ha2, ha3⟩) | (refine al_rdg 0 rfl rfl (by (repeat (first | exact .nil | refine .one rfl rfl ?_ | refine .tag rfl ?_ | refine .froz rfl rfl ?_ | refine .rnil rfl ?_ | refine .agg rfl (by (repeat (first | exact .nil | refine .cons (.same rfl) ?_ | refine .cons (.froz rfl) ?_ | refine .cons (.rnil) ?_)); (first | done | fail)) ?_)); (first | done | fail)) rfl (c_of _ _ _ hb (by omega) (by simp)) ?_; rintro s q3 ⟨rfl, hs⟩))) | refine al_v (opx_build2 (res := [_, _]) rfl) ⟨rfl, rfl, trivial⟩ trivial rfl ?_ | (refine is_bs ?_; refine al_pushL ⟨rfl, trivial⟩ rfl rfl rfl rfl rfl (by omega) ?_) | refine al_nil ?_ | refine al_litS [[97], [122, 122], [122, 122, 122, 122, 122], [], [122, 65]] (by (repeat (first | exact .nil _ | refine .cons rfl ?_)); (first | done | fail)) rfl rfl rfl ?_ | refine al_litS [[120], [], [120, 120, 120, 120, 120], [49]] (by (repeat (first | exact .nil _ | refine .cons rfl ?_)); (first | done | fail)) rfl rfl rfl ?_)) | (refine is_ad ?_; (first | refine al_litS [[97], [122, 122], [122, 122, 122, 122, 122], [], [122, 65]] (by (repeat (first | exact .nil _ | refine .cons rfl ?_)); (first | done | fail)) rfl rfl rfl ?_ | refine al_litS [[120], [], [120, 120, 120, 120, 120], [49]] (by (repeat (first | exact .nil _ | refine .cons rfl ?_)); (first | done | fail)) rfl rfl rfl ?_)) | (refine is_aw ?_; (first | refine aw_seq ?_ | refine aw_region ?_ | refine aw_skip ?_ | refine aw_ret ?_ | (refine is_cond ?_; (refine aw_cond rfl ?_ ?_ <;> ((intro hgd; try exact absurd hgd (by decide)); (try (have hz := hgd; simp only [decide_eq_true_eq, decide_eq_false_iff_not, Bool.not_eq_true', Bool.not_eq_false', Bool.not_true, Bool.not_false, beq_iff_eq, Int.not_le, Int.not_lt] at hz)); (try (exfalso; omega))))))))
  · exact retm_row trivial rfl rfl rfl rfl rfl ⟨_, _, rfl, rfl, _, rfl, by omega, by omega, by rw [List.length_append, List.length_singleton]; omega, all_snoc h4 ⟨(m1 _ (by assumption)).1, m2 _ (by assumption), (m1 _ (by assumption)).2⟩⟩
  · exact retm_row trivial rfl rfl rfl rfl rfl ⟨_, _, rfl, rfl, l, rfl, by omega, by omega, by omega, h4⟩
/-! ### the law on signs -/
theorem txt_count {l : List Lb} (h : VL l) : (txt l).count 61 = l.length := by
  have hw : ∀ {s : Str}, vw s → s.count 61 = 0 := fun hs => List.count_eq_zero.2 (vw_not hs (by decide))
  have hj : ∀ {m : List Lb}, (∀ x ∈ m, vw x.1 ∧ vw x.2) → (jn 44 (m.map eqt)).count 61 = m.length := by
    intro m
    induction m with
    | nil => intro _; rfl
    | cons x r ih =>
      intro hm
      have hx := hm x (.head _)
      have he : (eqt x).count 61 = 1 := by rw [eqt, List.count_append, hw hx.1, List.count_cons, hw hx.2]; rfl
      cases r with
      | nil => exact he
      | cons y r =>
        have ih := ih (fun z hz => hm z (.tail _ hz))
        rw [List.map_cons, jn_cons (by simp), List.count_append, he, List.count_cons, ih]
        simp; omega
  rw [txt, List.count_cons, List.count_append, hj (fun x hx => VL_mem h hx)]
  rfl
theorem count_take {s : Str} {k : Nat} {c a : UInt8} (h : s[k]? = some c) : (s.take (k + 1)).count a = (s.take k).count a + if c = a then 1 else 0 := by
  rw [List.take_add_one, h, List.count_append]
  simp [List.count_cons]
theorem txt_len {l : List Lb} (h : VL l) : (txt l).length ≤ 42 := by
  have := VL_jn h l.length
  rw [List.take_length] at this
  simp [txt]; omega
end Go.Proofs.YtllgddednlfhfaaDoor
