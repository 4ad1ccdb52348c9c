/- Texts: W62 W17 W63 W2 W28 Eng31 W64 W65 W66 PG -/
import Derived.Test.YtokhfcfnhgianaaCG9
import Derived.Test.YtokhfcfnhgianaaCG7
import Derived.Test.YtokhfcfnhgianaaCG8
/-
  The text of labels: the walks.
-/
namespace Go.Proofs.Ytokhfcfnhgianaa
open Go.RowKit
set_option linter.unusedVariables false
set_option linter.unusedSimpArgs false
attribute [local irreducible] AL AW OpX Le AD

theorem jn_lib : ∀ {l : List Str}, Lib.join l [44] = jn 44 l
  | [] => rfl
  | [x] => by rw [Lib.join_one]; rfl
  | x :: y :: r => by
    have ih := jn_lib (l := y :: r)
    rw [jn_cons (by simp), ← ih]
    simp [Lib.join, List.intercalate]
theorem stRs_cells {Z : Nat → Prop} {w : World} : ∀ {l : List Str} {us : List Value}, DL Z w (stRs l).flatten us → us = l.map fun s => Value.string ⟨s.toArray⟩
  | [], [], _ => rfl
  | [], _ :: _, h => h.elim
  | b :: bs, u :: us, h => by
    have h1 : DC Z w (cS b) u := h.1
    have h2 := stRs_cells (l := bs) (us := us) h.2
    cases h1
    rw [h2]; rfl
  | _ :: _, [], h => h.elim
theorem c_Join (l : List Str) (hn : l.length ≤ 1000) (hl : (jn 44 l).length ≤ 140737488355328) : Con Try.prog 37 [slS l, rStr [44]] [] (fun rs all => rs = [rStr (jn 44 l)] ∧ all = []) := by
  refine con_of_below (v := .string ⟨(jn 44 l).toArray⟩) rfl (by kernel_rfl) fun w ρ Z vs hd hz => ?_
  match vs, hd with
  | [u, v], hd =>
    have hv : v = .string ⟨#[44]⟩ := by
      have h : DC Z w (cS [44]) v := hd.2.1
      cases h; rfl
    subst hv
    have hu : DC Z w (.sl 1 (stRs l)) u := hd.1
    generalize hr : stRs l = rows at hu
    cases hu with
    | nil _ ao cap h =>
      have h0 : l = [] := by
        have := stRs_len (xs := l); rw [hr] at this; exact List.eq_nil_of_length_eq_zero this.symm
      subst h0
      exact (strings_Join_none ao cap ⟨#[44]⟩ w).mono fun e w' ⟨h1, h2⟩ => ⟨h1, h2 ▸ Below.refl _ _⟩
    | sl _ _ b off n cap us h1 hw hzb hc hm hl2 hcell hd2 =>
      subst hr
      have hnl : n = l.length := by rw [← h1, stRs_len]
      have hus := stRs_cells (DL.mk hl2 hd2)
      have e1 : (l.map fun s => (⟨s.toArray⟩ : ByteArray)).map (·.data.toList) = l := by rw [List.map_map]; simp [Function.comp_def]
      have hj := strings_Join b off cap (l.map fun s => ⟨s.toArray⟩) ⟨#[44]⟩ w (fun j x hx => hcell j _ (by
        rw [hus, List.getElem?_map]
        rw [List.getElem?_map] at hx
        cases h : l[j]? with
        | none => rw [h] at hx; cases hx
        | some y => rw [h] at hx; cases hx; rfl)) (hz b hzb) (by rw [List.length_map]; omega) (by rw [List.length_map]; omega) (by rw [e1]; show (Lib.join l [44]).length ≤ _; rw [jn_lib]; exact hl)
      rw [e1, List.length_map] at hj
      subst hnl
      exact hj.mono fun e w' ⟨g1, g2⟩ => ⟨g1.trans (by rw [← jn_lib]), g2⟩
noncomputable def fmt (l : List Lb) : Str := if vlB l = true then txt l else []
theorem fmt_t {l : List Lb} (h : vlB l = true) : fmt l = txt l := by rw [fmt, if_pos h]
theorem fmt_f {l : List Lb} (h : vlB l = false) : fmt l = [] := by rw [fmt, h]; rfl
theorem jn_len {c : UInt8} {m : Nat} : ∀ {l : List Str}, (∀ p ∈ l, p.length ≤ m) → (jn c l).length ≤ (m + 1) * l.length
  | [], _ => Nat.zero_le _
  | [x], h => by have := h x (.head _); simp only [jn, List.length_singleton]; omega
  | x :: y :: r, h => by
    have h1 := h x (.head _)
    have h2 := jn_len (c := c) (l := y :: r) (fun p hp => h p (.tail _ hp))
    rw [jn_cons (by simp), List.length_append, List.length_cons, List.length_cons, Nat.mul_add]
    omega
theorem eqt_len {x : Lb} : (eqt x).length = x.1.length + x.2.length + 1 := by simp [eqt]; omega
theorem eqts_take {l : List Lb} {k : Nat} {x : Lb} (h : l[k]? = some x) : (l.take (k + 1)).map eqt = (l.take k).map eqt ++ [x.1 ++ [61] ++ x.2] := by
  rw [List.take_add_one, h, List.map_append]; simp [eqt]
theorem VL_jn {l : List Lb} (h : VL l) (k : Nat) : (jn 44 ((l.take k).map eqt)).length ≤ 40 := by
  have h1 := jn_len (c := 44) (m := 9) (l := (l.take k).map eqt) (fun p hp => by
    obtain ⟨x, hx, rfl⟩ := List.mem_map.1 hp
    obtain ⟨a1, a2⟩ := VL_mem h (List.mem_of_mem_take hx)
    have b1 := a1.2.1
    have b2 := a2.2.1
    rw [eqt_len]; omega)
  have h2 := h.1
  rw [List.length_map, List.length_take] at h1
  omega
theorem c_FormatLabels (l : List Lb) (hL : ∀ x ∈ l, BIG x.1.length ∧ BIG x.2.length) (hl : BIG l.length) : Con Try.prog 22 [slL l] [] (fun rs all => rs = [rStr (fmt l)] ∧ all = []) := by
  have hlr := lbRs_len (xs := l)
  refine con_of_aw (vars := [.tmp 2]) [(0, .r (slL l))] [] 0 Try.func22 (by kernel_rfl) rfl Try.ntmps22 rfl (by decide) rfl rfl rfl rfl rfl ?_; intro B M w0 ρ0 Z0
  have n1 : (!true) = false := rfl
  have n2 : (!false) = true := rfl
  have hcv := c_ValidLabels l hL hl
  cases hv : vlB l
  · rw [hv] at hcv
    repeat' (first | (refine is_al ?_; (first | (refine is_move ?_; refine al_v (opx_move (.sl _ _)) ⟨rfl, trivial⟩ trivial rfl ?_) | (refine is_assign ?_; refine al_v (opx_assign (.raw _)) ⟨rfl, trivial⟩ trivial rfl ?_) | (refine is_call ?_; refine al_callv2 (by (repeat (first | exact .nil | refine .one rfl rfl ?_ | refine .froz rfl rfl ?_ | refine .row rfl rfl ?_ | refine .rnil rfl ?_ | refine .agg rfl (by (repeat (first | exact .nil | refine .cons (.same rfl) ?_ | refine .cons (.froz rfl) ?_ | refine .cons (.rnil) ?_ | refine .cons (.row rfl rfl) ?_)); (first | done | fail)) ?_)); (first | done | fail)) rfl (hcv) rfl ?_) | refine al_v opx_not ⟨rfl, trivial⟩ trivial rfl ?_ | refine al_nil ?_)) | (refine is_aw ?_; (first | refine aw_seq ?_ | refine aw_region ?_ | refine aw_ret ?_ | (refine is_cond ?_; refine aw_cond_t rfl rfl ?_))) | refine thn_r ?_)
    exact ret_raw trivial rfl ⟨by rw [fmt_f hv], rfl⟩
  · rw [hv] at hcv
    have hV := vlB_of hv
    have h4 := hV.1
    repeat' (first | (refine is_al ?_; (first | (refine is_move ?_; (first | refine al_v (opx_move (.raw _)) ⟨rfl, trivial⟩ trivial rfl ?_ | refine al_v (opx_move (.sl _ _)) ⟨rfl, trivial⟩ trivial rfl ?_)) | (refine is_assign ?_; (first | refine al_v (opx_assign (.raw _)) ⟨rfl, trivial⟩ trivial rfl ?_ | refine al_v (opx_assign (.own _)) ⟨rfl, trivial⟩ trivial rfl ?_)) | (refine is_bi ?_; refine al_v opx_len_sl ⟨rfl, trivial⟩ trivial rfl ?_) | (refine is_call ?_; refine al_callv2 (by (repeat (first | exact .nil | refine .one rfl rfl ?_ | refine .froz rfl rfl ?_ | refine .row rfl rfl ?_ | refine .rnil rfl ?_ | refine .agg rfl (by (repeat (first | exact .nil | refine .cons (.same rfl) ?_ | refine .cons (.froz rfl) ?_ | refine .cons (.rnil) ?_ | refine .cons (.row rfl rfl) ?_)); (first | done | fail)) ?_)); (first | done | fail)) rfl (hcv) rfl ?_) | refine al_v opx_not ⟨rfl, trivial⟩ trivial rfl ?_ | refine al_mk0 rfl rfl rfl rfl (by omega) ?_ | refine al_nil ?_)) | (refine is_aw ?_; (first | refine aw_seq ?_ | refine aw_region ?_ | refine aw_skip ?_ | refine aw_block ?_ | (refine is_cond ?_; refine aw_cond_f rfl rfl ?_))))
    refine aw_loop (γ := Nat) (fun k => [(3, .own 0), (12, .sl 2 (lbRs l)), (13, .i ((lbRs l).length : Int)), (14, .i (k : Int))]) (fun k => [(0, .row 1 9 (stRs ((l.take k).map eqt)))]) (fun _ => 1)
      (fun k => k ≤ l.length) (fun k => l.length - k) 0 (Nat.zero_le _) (le_mk [0] rfl rfl rfl rfl ⟨rfl, rfl, rfl, rfl, trivial⟩ ⟨rfl, trivial⟩) ?_
    intro k hk
    have hkl : ((l.take k).map eqt).length ≤ 4 := by rw [List.length_map, List.length_take]; omega
    rcases Nat.lt_or_ge k l.length with hlt | hge
    · have hc1 : decide ((k : Int) < ((lbRs l).length : Int)) = true := decide_eq_true (by omega)
      obtain ⟨x, hx⟩ : ∃ x, l[k]? = some x := ⟨_, List.getElem?_eq_getElem hlt⟩
      have hxr := lbRs_at hx
      obtain ⟨a1, a2⟩ := VL_mem hV (List.mem_of_getElem? hx)
      have b1 := a1.2.1
      have b2 := a2.2.1
      have hs := eqts_take hx
      repeat' (first | (refine is_al ?_; (first | (refine is_move ?_; (first | refine al_v (opx_move (.raw _)) ⟨rfl, trivial⟩ trivial rfl ?_ | refine al_v (opx_move (.own _)) ⟨rfl, trivial⟩ trivial rfl ?_)) | (refine is_bin ?_; (first | refine al_v opx_lss ⟨rfl, rfl, trivial⟩ trivial rfl ?_ | refine al_v (opx_add (by unfold InR; omega)) ⟨rfl, rfl, trivial⟩ trivial rfl ?_)) | (refine is_load ?_; (first | refine al_v opx_ld2_imm ⟨rfl, trivial⟩ trivial rfl ?_ | refine al_v (opx_ld_box rfl) ⟨rfl, trivial⟩ ⟨rfl, trivial⟩ rfl ?_)) | (refine is_fa ?_; refine al_v opx_fa_ref ⟨rfl, trivial⟩ trivial rfl ?_) | (refine is_assign ?_; refine al_v (opx_assign (.own _)) ⟨rfl, trivial⟩ trivial rfl ?_) | (refine is_ia ?_; refine al_v (opx_ia_sl2 hxr (by omega)) ⟨rfl, rfl, trivial⟩ trivial rfl ?_) | (refine is_st ?_; refine al_s (opx_sts_box (by rfl) (by rfl)) ⟨rfl, rfl, trivial⟩ ⟨rfl, trivial⟩ ?_) | (refine is_bs ?_; refine al_pushS ⟨rfl, trivial⟩ rfl rfl rfl rfl rfl (by omega) ?_) | refine al_n opx_alloc trivial trivial rfl ?_ | refine al_nil ?_ | refine al_v (opx_cat (by first | omega | (simp only [List.length_append, List.length_cons, List.length_nil]; omega))) ⟨rfl, rfl, trivial⟩ trivial rfl ?_)) | (refine is_ad ?_; refine al_v (opx_cat (by first | omega | (simp only [List.length_append, List.length_cons, List.length_nil]; omega))) ⟨rfl, rfl, trivial⟩ trivial rfl ?_) | (refine is_aw ?_; (first | refine aw_seq ?_ | refine aw_region ?_ | refine aw_skip ?_ | refine aw_block ?_ | (refine is_cond ?_; refine aw_cond_t rfl (by assumption) ?_))) | refine thn_n ?_)
      exact ⟨k + 1, hlt, by omega, le_mk [_] rfl rfl rfl rfl ⟨rfl, rfl, rfl, rfl, trivial⟩ ⟨by rw [hs]; rfl, trivial⟩⟩
    · have hc1 : decide ((k : Int) < ((lbRs l).length : Int)) = false := decide_eq_false (by omega)
      have hjl := VL_jn hV k
      rw [List.take_of_length_le hge] at hjl hkl ⊢
      repeat' (first | (refine is_al ?_; (first | (refine is_move ?_; refine al_v (opx_move (.own _)) ⟨rfl, trivial⟩ trivial rfl ?_) | (refine is_bin ?_; refine al_v opx_lss ⟨rfl, rfl, trivial⟩ trivial rfl ?_) | (refine is_assign ?_; refine al_v (opx_assign (.raw _)) ⟨rfl, trivial⟩ trivial rfl ?_) | (refine is_call ?_; refine al_callv2 (by (repeat (first | exact .nil | refine .one rfl rfl ?_ | refine .froz rfl rfl ?_ | refine .row rfl rfl ?_ | refine .rnil rfl ?_ | refine .agg rfl (by (repeat (first | exact .nil | refine .cons (.same rfl) ?_ | refine .cons (.froz rfl) ?_ | refine .cons (.rnil) ?_ | refine .cons (.row rfl rfl) ?_)); (first | done | fail)) ?_)); (first | done | fail)) rfl (c_Join _ (by omega) (by omega)) rfl ?_) | refine al_nil ?_ | refine al_v (opx_cat (by first | omega | (simp only [List.length_append, List.length_cons, List.length_nil]; omega))) ⟨rfl, rfl, trivial⟩ trivial rfl ?_)) | (refine is_ad ?_; refine al_v (opx_cat (by first | omega | (simp only [List.length_append, List.length_cons, List.length_nil]; omega))) ⟨rfl, rfl, trivial⟩ trivial rfl ?_) | (refine is_aw ?_; (first | refine aw_seq ?_ | refine aw_region ?_ | refine aw_ret ?_ | refine aw_exit ?_ | (refine is_cond ?_; refine aw_cond_f rfl (by assumption) ?_))))
      exact ret_raw trivial rfl ⟨by rw [fmt_t hv]; rfl, rfl⟩
end Go.Proofs.Ytokhfcfnhgianaa
/-
  The tools of the exact statements: sizes, copies, marks.
-/
namespace Go.Proofs.Ytokhfcfnhgianaa
open Go.RowKit
set_option linter.unusedVariables false
set_option linter.unusedSimpArgs false
attribute [local irreducible] AL AW OpX Le AD

theorem take_set {α : Type} {ps : List α} {z : α} {n k : Nat} {p : α} (hp : ps[k]? = some p) (hn : ps.length = n) : (ps.take k ++ List.replicate (n - k) z).set k p = ps.take (k + 1) ++ List.replicate (n - (k + 1)) z := by
  obtain ⟨hk, rfl⟩ := List.getElem?_eq_some_iff.1 hp
  have hl : (ps.take k).length = k := by simp; omega
  rw [List.set_append_right _ _ (by omega), hl, Nat.sub_self, show n - k = (n - (k + 1)) + 1 by omega, List.replicate_succ, List.set_cons_zero, List.take_succ_eq_append_getElem hk, List.append_assoc]; rfl
end Go.Proofs.Ytokhfcfnhgianaa
/-
  The exact law of the text of labels: the walks.
-/
namespace Go.Proofs.Ytokhfcfnhgianaa
open Go.RowKit
set_option linter.unusedVariables false
set_option linter.unusedSimpArgs false
attribute [local irreducible] AL AW OpX Le AD

def szB (left : Int) (x : Lb) : Int := if left - (x.1.length : Int) < 0 then -1 else if left - (x.1.length : Int) - (x.2.length : Int) < 0 then -1 else left - (x.1.length : Int) - (x.2.length : Int)
def szLs : Int → List Lb → Int
  | left, [] => left
  | left, x :: r => if szB left x < 0 then -1 else szLs (szB left x) r
def szT (left : Int) (l : List Lb) : Int := if left - (l.length : Int) < 0 then -1 else szLs (left - (l.length : Int)) l
theorem szB_le {left : Int} {x : Lb} (h : ¬ szB left x < 0) : (x.1.length : Int) ≤ left ∧ (x.2.length : Int) ≤ left ∧ szB left x ≤ left := by
  unfold szB at h ⊢
  split at h
  · omega
  · split at h
    · omega
    · rename_i h1 h2; rw [if_neg h1, if_neg h2]; omega
theorem szLs_le : ∀ {l : List Lb} {left : Int}, ¬ szLs left l < 0 → ∀ x ∈ l, (x.1.length : Int) ≤ left ∧ (x.2.length : Int) ≤ left
  | [], _, _, x, hx => by cases hx
  | y :: r, left, h, x, hx => by
    simp only [szLs] at h
    split at h
    · omega
    · rename_i h1
      obtain ⟨b1, b2, b3⟩ := szB_le h1
      rcases List.mem_cons.1 hx with rfl | hx
      · exact ⟨b1, b2⟩
      · obtain ⟨c1, c2⟩ := szLs_le h x hx
        exact ⟨by omega, by omega⟩
theorem szT_le {left : Int} {l : List Lb} (h : ¬ szT left l < 0) (h0 : 0 ≤ left) : (l.length : Int) ≤ left ∧ ∀ x ∈ l, (x.1.length : Int) ≤ left ∧ (x.2.length : Int) ≤ left := by
  unfold szT at h
  split at h
  · omega
  · refine ⟨by omega, fun x hx => ?_⟩
    obtain ⟨c1, c2⟩ := szLs_le h x hx
    exact ⟨by omega, by omega⟩
abbrev rL (x : Lb) : AR := .agg [.c (cS x.1), .c (cS x.2)]
theorem c_szLabel (x : Lb) (left : Int) (hl : -1 ≤ left ∧ left ≤ 1048576) (h1 : x.1.length ≤ 9223372036854775807) (h2 : x.2.length ≤ 9223372036854775807) : Con Try.prog 39 [rL x, rI left] [] (fun rs all => rs = [rI (szB left x)] ∧ all = []) := by
  refine con_of_aw (vars := [.tmp 4]) [(0, .r (rL x)), (1, .r (rI left))] [] 0 Try.func39 (by kernel_rfl) rfl Try.ntmps39 rfl (by decide) rfl rfl rfl rfl rfl ?_; intro B M w0 ρ0 Z0
  by_cases a1 : left - (x.1.length : Int) < 0
  · have d1 : decide (left - (x.1.length : Int) < 0) = true := decide_eq_true a1
    have e : szB left x = -1 := by rw [szB, if_pos a1]
    repeat' (first | (refine is_al ?_; (first | (refine is_move ?_; refine al_v (opx_move (.raw _)) ⟨rfl, trivial⟩ trivial rfl ?_) | (refine is_bin ?_; (first | refine al_v opx_lss ⟨rfl, rfl, trivial⟩ trivial rfl ?_ | refine al_v (opx_sub (by unfold InR; omega)) ⟨rfl, rfl, trivial⟩ trivial rfl ?_)) | (refine is_load ?_; refine al_v (opx_ld_box rfl) ⟨rfl, trivial⟩ ⟨rfl, trivial⟩ rfl ?_) | (refine is_fa ?_; refine al_v opx_fa_ref ⟨rfl, trivial⟩ trivial rfl ?_) | (refine is_assign ?_; refine al_v (opx_assign (.raw _)) ⟨rfl, trivial⟩ trivial rfl ?_) | (refine is_bi ?_; refine al_v opx_len_str ⟨rfl, trivial⟩ trivial rfl ?_) | refine al_n opx_boxs ⟨rfl, trivial⟩ trivial rfl ?_ | refine al_nil ?_)) | (refine is_aw ?_; (first | refine aw_seq ?_ | refine aw_region ?_ | refine aw_ret ?_ | (refine is_cond ?_; refine aw_cond_t rfl (by assumption) ?_))) | refine thn_r ?_)
    exact ret_raw trivial rfl ⟨by rw [e], rfl⟩
  · have d1 : decide (left - (x.1.length : Int) < 0) = false := decide_eq_false a1
    by_cases a2 : left - (x.1.length : Int) - (x.2.length : Int) < 0
    · have d2 : decide (left - (x.1.length : Int) - (x.2.length : Int) < 0) = true := decide_eq_true a2
      have e : szB left x = -1 := by rw [szB, if_neg a1, if_pos a2]
      repeat' (first | (refine is_al ?_; (first | (refine is_move ?_; refine al_v (opx_move (.raw _)) ⟨rfl, trivial⟩ trivial rfl ?_) | (refine is_bin ?_; (first | refine al_v opx_lss ⟨rfl, rfl, trivial⟩ trivial rfl ?_ | refine al_v (opx_sub (by unfold InR; omega)) ⟨rfl, rfl, trivial⟩ trivial rfl ?_)) | (refine is_load ?_; refine al_v (opx_ld_box rfl) ⟨rfl, trivial⟩ ⟨rfl, trivial⟩ rfl ?_) | (refine is_fa ?_; refine al_v opx_fa_ref ⟨rfl, trivial⟩ trivial rfl ?_) | (refine is_assign ?_; refine al_v (opx_assign (.raw _)) ⟨rfl, trivial⟩ trivial rfl ?_) | (refine is_bi ?_; refine al_v opx_len_str ⟨rfl, trivial⟩ trivial rfl ?_) | refine al_n opx_boxs ⟨rfl, trivial⟩ trivial rfl ?_ | refine al_nil ?_)) | (refine is_aw ?_; (first | refine aw_seq ?_ | refine aw_region ?_ | refine aw_skip ?_ | refine aw_ret ?_ | (refine is_cond ?_; (first | refine aw_cond_t rfl (by assumption) ?_ | refine aw_cond_f rfl (by assumption) ?_)))) | refine thn_r ?_)
      exact ret_raw trivial rfl ⟨by rw [e], rfl⟩
    · have d2 : decide (left - (x.1.length : Int) - (x.2.length : Int) < 0) = false := decide_eq_false a2
      have e : szB left x = left - (x.1.length : Int) - (x.2.length : Int) := by rw [szB, if_neg a1, if_neg a2]
      repeat' (first | (refine is_al ?_; (first | (refine is_move ?_; refine al_v (opx_move (.raw _)) ⟨rfl, trivial⟩ trivial rfl ?_) | (refine is_bin ?_; (first | refine al_v opx_lss ⟨rfl, rfl, trivial⟩ trivial rfl ?_ | refine al_v (opx_sub (by unfold InR; omega)) ⟨rfl, rfl, trivial⟩ trivial rfl ?_)) | (refine is_load ?_; refine al_v (opx_ld_box rfl) ⟨rfl, trivial⟩ ⟨rfl, trivial⟩ rfl ?_) | (refine is_fa ?_; refine al_v opx_fa_ref ⟨rfl, trivial⟩ trivial rfl ?_) | (refine is_assign ?_; refine al_v (opx_assign (.raw _)) ⟨rfl, trivial⟩ trivial rfl ?_) | (refine is_bi ?_; refine al_v opx_len_str ⟨rfl, trivial⟩ trivial rfl ?_) | refine al_n opx_boxs ⟨rfl, trivial⟩ trivial rfl ?_ | refine al_nil ?_)) | (refine is_aw ?_; (first | refine aw_seq ?_ | refine aw_region ?_ | refine aw_skip ?_ | refine aw_ret ?_ | (refine is_cond ?_; refine aw_cond_f rfl (by assumption) ?_))))
      exact ret_raw trivial rfl ⟨by rw [e], rfl⟩
theorem c_szLabelS (l : List Lb) (left : Int) (hl : 0 ≤ left ∧ left ≤ 1048576) (hL : l.length ≤ 9223372036854775807) (hs : ∀ x ∈ l, x.1.length ≤ 9223372036854775807 ∧ x.2.length ≤ 9223372036854775807) : Con Try.prog 28 [slL l, rI left] [] (fun rs all => rs = [rI (szT left l)] ∧ all = []) := by
  have hlr := lbRs_len (xs := l)
  refine con_of_aw (vars := [.tmp 4]) [(0, .r (slL l)), (1, .r (rI left))] [] 0 Try.func28 (by kernel_rfl) rfl Try.ntmps28 rfl (by decide) rfl rfl rfl rfl rfl ?_; intro B M w0 ρ0 Z0
  by_cases a1 : left - ((lbRs l).length : Int) < 0
  · have d1 : decide (left - ((lbRs l).length : Int) < 0) = true := decide_eq_true a1
    have e : szT left l = -1 := by rw [szT, if_pos (by omega)]
    repeat' (first | (refine is_al ?_; (first | (refine is_move ?_; (first | refine al_v (opx_move (.raw _)) ⟨rfl, trivial⟩ trivial rfl ?_ | refine al_v (opx_move (.sl _ _)) ⟨rfl, trivial⟩ trivial rfl ?_)) | (refine is_bin ?_; (first | refine al_v opx_lss ⟨rfl, rfl, trivial⟩ trivial rfl ?_ | refine al_v (opx_sub (by unfold InR; omega)) ⟨rfl, rfl, trivial⟩ trivial rfl ?_)) | (refine is_assign ?_; refine al_v (opx_assign (.raw _)) ⟨rfl, trivial⟩ trivial rfl ?_) | (refine is_bi ?_; refine al_v opx_len_sl ⟨rfl, trivial⟩ trivial rfl ?_) | refine al_nil ?_)) | (refine is_aw ?_; (first | refine aw_seq ?_ | refine aw_region ?_ | refine aw_ret ?_ | (refine is_cond ?_; refine aw_cond_t rfl (by assumption) ?_))) | refine thn_r ?_)
    exact ret_raw trivial rfl ⟨by rw [e], rfl⟩
  · have d1 : decide (left - ((lbRs l).length : Int) < 0) = false := decide_eq_false a1
    have e : szT left l = szLs (left - (l.length : Int)) l := by rw [szT, if_neg (by omega)]
    repeat' (first | (refine is_al ?_; (first | (refine is_move ?_; (first | refine al_v (opx_move (.raw _)) ⟨rfl, trivial⟩ trivial rfl ?_ | refine al_v (opx_move (.sl _ _)) ⟨rfl, trivial⟩ trivial rfl ?_)) | (refine is_bin ?_; (first | refine al_v opx_lss ⟨rfl, rfl, trivial⟩ trivial rfl ?_ | refine al_v (opx_sub (by unfold InR; omega)) ⟨rfl, rfl, trivial⟩ trivial rfl ?_)) | (refine is_assign ?_; refine al_v (opx_assign (.raw _)) ⟨rfl, trivial⟩ trivial rfl ?_) | (refine is_bi ?_; refine al_v opx_len_sl ⟨rfl, trivial⟩ trivial rfl ?_) | refine al_nil ?_)) | (refine is_aw ?_; (first | refine aw_seq ?_ | refine aw_region ?_ | refine aw_skip ?_ | refine aw_block ?_ | (refine is_cond ?_; refine aw_cond_f rfl (by assumption) ?_))))
    refine aw_loop (γ := Nat × Int) (fun g => [(0, .r (slL l)), (1, .i g.2), (5, .i (g.1 : Int))]) (fun _ => []) (fun _ => 0)
      (fun g => g.1 ≤ l.length ∧ 0 ≤ g.2 ∧ g.2 ≤ 1048576 ∧ szLs g.2 (l.drop g.1) = szT left l) (fun g => l.length - g.1) (0, left - (l.length : Int)) ⟨Nat.zero_le _, by dsimp only; omega, by dsimp only; omega, e.symm⟩ (le_mk [] rfl rfl rfl rfl ⟨rfl, by rw [hlr]; rfl, rfl, trivial⟩ trivial) ?_
    rintro ⟨k, v⟩ ⟨h1, h2, h3, h4⟩
    dsimp only at h1 h2 h3 h4 ⊢
    rcases Nat.lt_or_ge k l.length with hlt | hge
    · have hc1 : decide ((k : Int) < ((lbRs l).length : Int)) = true := decide_eq_true (by omega)
      obtain ⟨x, hx⟩ : ∃ x, l[k]? = some x := ⟨_, List.getElem?_eq_getElem hlt⟩
      have hxr := lbRs_at hx
      obtain ⟨b1, b2⟩ := hs x (List.mem_of_getElem? hx)
      have hdr : l.drop k = x :: l.drop (k + 1) := by
        obtain ⟨_, rfl⟩ := List.getElem?_eq_some_iff.1 hx
        exact List.drop_eq_getElem_cons hlt
      rw [hdr] at h4
      simp only [szLs] at h4
      by_cases g1 : szB v x < 0
      · have d2 : decide (szB v x < 0) = true := decide_eq_true g1
        rw [if_pos g1] at h4
        repeat' (first | (refine is_al ?_; (first | (refine is_move ?_; (first | refine al_v (opx_move (.raw _)) ⟨rfl, trivial⟩ trivial rfl ?_ | refine al_v (opx_move (.sl _ _)) ⟨rfl, trivial⟩ trivial rfl ?_)) | (refine is_bin ?_; refine al_v opx_lss ⟨rfl, rfl, trivial⟩ trivial rfl ?_) | (refine is_load ?_; refine al_v opx_ld2_imm ⟨rfl, trivial⟩ trivial rfl ?_) | (refine is_assign ?_; refine al_v (opx_assign (.raw _)) ⟨rfl, trivial⟩ trivial rfl ?_) | (refine is_bi ?_; refine al_v opx_len_sl ⟨rfl, trivial⟩ trivial rfl ?_) | (refine is_ia ?_; refine al_v (opx_ia_sl2 hxr (by omega)) ⟨rfl, rfl, trivial⟩ trivial rfl ?_) | (refine is_call ?_; refine al_callv2 (by (repeat (first | exact .nil | refine .one rfl rfl ?_ | refine .froz rfl rfl ?_ | refine .row rfl rfl ?_ | refine .rnil rfl ?_ | refine .agg rfl (by (repeat (first | exact .nil | refine .cons (.same rfl) ?_ | refine .cons (.froz rfl) ?_ | refine .cons (.rnil) ?_ | refine .cons (.row rfl rfl) ?_)); (first | done | fail)) ?_)); (first | done | fail)) rfl (c_szLabel x v (by omega) b1 b2) rfl ?_) | refine al_nil ?_)) | (refine is_aw ?_; (first | refine aw_seq ?_ | refine aw_region ?_ | refine aw_skip ?_ | refine aw_block ?_ | refine aw_ret ?_ | (refine is_cond ?_; refine aw_cond_t rfl (by assumption) ?_))) | refine thn_r ?_ | refine inb_r ?_)
        exact ret_raw trivial rfl ⟨by rw [← h4], rfl⟩
      · have d2 : decide (szB v x < 0) = false := decide_eq_false g1
        have g2 := (szB_le g1).2.2
        rw [if_neg g1] at h4
        repeat' (first | (refine is_al ?_; (first | (refine is_move ?_; (first | refine al_v (opx_move (.raw _)) ⟨rfl, trivial⟩ trivial rfl ?_ | refine al_v (opx_move (.sl _ _)) ⟨rfl, trivial⟩ trivial rfl ?_)) | (refine is_bin ?_; (first | refine al_v opx_lss ⟨rfl, rfl, trivial⟩ trivial rfl ?_ | refine al_v (opx_add (by unfold InR; omega)) ⟨rfl, rfl, trivial⟩ trivial rfl ?_)) | (refine is_load ?_; refine al_v opx_ld2_imm ⟨rfl, trivial⟩ trivial rfl ?_) | (refine is_assign ?_; refine al_v (opx_assign (.raw _)) ⟨rfl, trivial⟩ trivial rfl ?_) | (refine is_bi ?_; refine al_v opx_len_sl ⟨rfl, trivial⟩ trivial rfl ?_) | (refine is_ia ?_; refine al_v (opx_ia_sl2 hxr (by omega)) ⟨rfl, rfl, trivial⟩ trivial rfl ?_) | (refine is_call ?_; refine al_callv2 (by (repeat (first | exact .nil | refine .one rfl rfl ?_ | refine .froz rfl rfl ?_ | refine .row rfl rfl ?_ | refine .rnil rfl ?_ | refine .agg rfl (by (repeat (first | exact .nil | refine .cons (.same rfl) ?_ | refine .cons (.froz rfl) ?_ | refine .cons (.rnil) ?_ | refine .cons (.row rfl rfl) ?_)); (first | done | fail)) ?_)); (first | done | fail)) rfl (c_szLabel x v (by omega) b1 b2) rfl ?_) | refine al_nil ?_)) | (refine is_aw ?_; (first | refine aw_seq ?_ | refine aw_region ?_ | refine aw_skip ?_ | refine aw_block ?_ | (refine is_cond ?_; (first | refine aw_cond_t rfl (by assumption) ?_ | refine aw_cond_f rfl (by assumption) ?_)))) | refine thn_n ?_)
        exact ⟨(k + 1, szB v x), ⟨hlt, by dsimp only; omega, by dsimp only; omega, h4⟩, by dsimp only; omega, le_mk [] rfl rfl rfl rfl ⟨rfl, rfl, rfl, trivial⟩ trivial⟩
    · have hc1 : decide ((k : Int) < ((lbRs l).length : Int)) = false := decide_eq_false (by omega)
      rw [List.drop_of_length_le hge] at h4
      repeat' (first | (refine is_al ?_; (first | (refine is_move ?_; (first | refine al_v (opx_move (.raw _)) ⟨rfl, trivial⟩ trivial rfl ?_ | refine al_v (opx_move (.sl _ _)) ⟨rfl, trivial⟩ trivial rfl ?_)) | (refine is_bin ?_; refine al_v opx_lss ⟨rfl, rfl, trivial⟩ trivial rfl ?_) | (refine is_assign ?_; refine al_v (opx_assign (.raw _)) ⟨rfl, trivial⟩ trivial rfl ?_) | (refine is_bi ?_; refine al_v opx_len_sl ⟨rfl, trivial⟩ trivial rfl ?_) | refine al_nil ?_)) | (refine is_aw ?_; (first | refine aw_seq ?_ | refine aw_region ?_ | refine aw_ret ?_ | refine aw_exit ?_ | (refine is_cond ?_; refine aw_cond_f rfl (by assumption) ?_))))
      exact ret_raw trivial rfl ⟨by rw [← h4]; rfl, rfl⟩
theorem c_toLabel (x : Lb) : Con Try.prog 42 [rL x] [] (fun rs all => rs = [rL x] ∧ all = []) := by
  refine con_of_aw (vars := [.cell 2 60]) [(0, .r (rL x))] [] 0 Try.func42 (by kernel_rfl) rfl Try.ntmps42 rfl (by decide) rfl rfl rfl rfl rfl ?_; intro B M w0 ρ0 Z0
  repeat' (first | (refine is_al ?_; (first | (refine is_load ?_; (first | refine al_v (opx_ld_box rfl) ⟨rfl, trivial⟩ ⟨rfl, trivial⟩ rfl ?_ | refine al_v opx_ld2_box ⟨rfl, trivial⟩ ⟨rfl, trivial⟩ rfl ?_)) | (refine is_fa ?_; refine al_v opx_fa_ref ⟨rfl, trivial⟩ trivial rfl ?_) | (refine is_st ?_; (first | refine al_s (opx_st1_box (by rfl)) ⟨rfl, rfl, trivial⟩ ⟨rfl, trivial⟩ ?_ | refine al_s (opx_sts_box (by rfl) (by rfl)) ⟨rfl, rfl, trivial⟩ ⟨rfl, trivial⟩ ?_)) | refine al_n opx_alloc trivial trivial rfl ?_ | refine al_n opx_boxs ⟨rfl, trivial⟩ trivial rfl ?_ | refine al_nil ?_)) | (refine is_aw ?_; (first | refine aw_seq ?_ | refine aw_region ?_ | refine aw_ret ?_)))
  exact ret_struct trivial rfl rfl (by kernel_rfl) rfl rfl ⟨rfl, rfl⟩
theorem lbRs_rep {n : Nat} : List.replicate n ([Value.string ⟨#[]⟩, Value.string ⟨#[]⟩].map CV.raw) = lbRs (List.replicate n ([], [])) := by simp only [lbRs, List.map_replicate]; rfl
theorem c_toLabelS (l : List Lb) (hL : l.length ≤ 2000000) : Con Try.prog 33 [slL l] [] (fun rs all => rs = [.one (.own 0)] ∧ all = [.row 2 60 (lbRs l)]) := by
  have hlen := lbRs_len (xs := l)
  refine con_of_aw (vars := [.tmp 2]) [(0, .r (slL l))] [] 0 Try.func33 (by kernel_rfl) rfl Try.ntmps33 rfl (by decide) rfl rfl rfl rfl rfl ?_; intro B M w0 ρ0 Z0
  repeat' (first | (refine is_al ?_; (first | (refine is_move ?_; refine al_v (opx_move (.sl _ _)) ⟨rfl, trivial⟩ trivial rfl ?_) | (refine is_assign ?_; (first | refine al_v (opx_assign (.raw _)) ⟨rfl, trivial⟩ trivial rfl ?_ | refine al_v (opx_assign (.own _)) ⟨rfl, trivial⟩ trivial rfl ?_)) | (refine is_bi ?_; refine al_v opx_len_sl ⟨rfl, trivial⟩ trivial rfl ?_) | refine al_nil ?_ | refine al_mkn (rows := lbRs (List.replicate l.length ([], []))) l.length lbRs_rep (by omega) rfl rfl rfl rfl (by omega) ?_)) | (refine is_ad ?_; refine al_mkn (rows := lbRs (List.replicate l.length ([], []))) l.length lbRs_rep (by omega) rfl rfl rfl rfl (by omega) ?_) | (refine is_aw ?_; (first | refine aw_seq ?_ | refine aw_region ?_ | refine aw_block ?_)))
  refine aw_loop (γ := Nat) (fun k => [(0, .r (slL l)), (3, .own 0), (4, .i (k : Int))]) (fun k => [(0, .row 2 60 (lbRs (l.take k ++ List.replicate (l.length - k) ([], []))))]) (fun _ => 1)
    (fun k => k ≤ l.length) (fun k => l.length - k) 0 (Nat.zero_le _) (le_mk [0] rfl rfl rfl rfl ⟨rfl, rfl, rfl, trivial⟩ ⟨rfl, trivial⟩) ?_
  intro k hk
  rcases Nat.lt_or_ge k l.length with hlt | hge
  · have hc : decide ((k : Int) < ((lbRs l).length : Int)) = true := decide_eq_true (by omega)
    obtain ⟨p, hp⟩ : ∃ p, l[k]? = some p := ⟨_, List.getElem?_eq_getElem hlt⟩
    have hpr := lbRs_at hp
    have hko : k < (l.take k ++ List.replicate (l.length - k) (([], []) : Lb)).length := by rw [List.length_append, List.length_take, List.length_replicate]; omega
    have hko2 : k < (lbRs (l.take k ++ List.replicate (l.length - k) (([], []) : Lb))).length := by rw [lbRs_len]; exact hko
    repeat' (first | (refine is_al ?_; (first | (refine is_move ?_; (first | refine al_v (opx_move (.raw _)) ⟨rfl, trivial⟩ trivial rfl ?_ | refine al_v (opx_move (.sl _ _)) ⟨rfl, trivial⟩ trivial rfl ?_ | refine al_v (opx_move (.own _)) ⟨rfl, trivial⟩ trivial rfl ?_)) | (refine is_bin ?_; (first | refine al_v opx_lss ⟨rfl, rfl, trivial⟩ trivial rfl ?_ | refine al_v (opx_add (by unfold InR; omega)) ⟨rfl, rfl, trivial⟩ trivial rfl ?_)) | (refine is_load ?_; refine al_v opx_ld2_imm ⟨rfl, trivial⟩ trivial rfl ?_) | (refine is_assign ?_; refine al_v (opx_assign (.raw _)) ⟨rfl, trivial⟩ trivial rfl ?_) | (refine is_bi ?_; refine al_v opx_len_sl ⟨rfl, trivial⟩ trivial rfl ?_) | (refine is_ia ?_; (first | refine al_v (opx_ia_sl2 hpr (by omega)) ⟨rfl, rfl, trivial⟩ trivial rfl ?_ | refine al_v (opx_ia_own2 hko2 (by omega)) ⟨rfl, rfl, trivial⟩ ⟨rfl, trivial⟩ rfl ?_)) | (refine is_call ?_; refine al_callF (by (repeat (first | exact .nil | refine .one rfl rfl ?_ | refine .froz rfl rfl ?_ | refine .rnil rfl ?_ | refine .agg rfl (by (repeat (first | exact .nil | refine .cons (.same rfl) ?_ | refine .cons (.froz rfl) ?_ | refine .cons (.rnil) ?_)); (first | done | fail)) ?_)); (first | done | fail)) rfl (c_toLabel p) rfl ?_) | (refine is_st ?_; refine al_stL rfl rfl rfl (by assumption) ?_) | refine al_nil ?_)) | (refine is_aw ?_; (first | refine aw_seq ?_ | refine aw_region ?_ | refine aw_skip ?_ | refine aw_block ?_ | (refine is_cond ?_; refine aw_cond_t rfl (by assumption) ?_))) | refine thn_n ?_)
    rw [take_set (z := (([], []) : Lb)) hp rfl]
    exact ⟨k + 1, hlt, by omega, le_mk [0] rfl rfl rfl rfl ⟨rfl, rfl, rfl, trivial⟩ ⟨rfl, trivial⟩⟩
  · have hc : decide ((k : Int) < ((lbRs l).length : Int)) = false := decide_eq_false (by omega)
    repeat' (first | (refine is_al ?_; (first | (refine is_move ?_; (first | refine al_v (opx_move (.raw _)) ⟨rfl, trivial⟩ trivial rfl ?_ | refine al_v (opx_move (.sl _ _)) ⟨rfl, trivial⟩ trivial rfl ?_ | refine al_v (opx_move (.own _)) ⟨rfl, trivial⟩ trivial rfl ?_)) | (refine is_bin ?_; refine al_v opx_lss ⟨rfl, rfl, trivial⟩ trivial rfl ?_) | (refine is_assign ?_; refine al_v (opx_assign (.own _)) ⟨rfl, trivial⟩ trivial rfl ?_) | (refine is_bi ?_; refine al_v opx_len_sl ⟨rfl, trivial⟩ trivial rfl ?_) | refine al_nil ?_)) | (refine is_aw ?_; (first | refine aw_seq ?_ | refine aw_region ?_ | refine aw_ret ?_ | refine aw_exit ?_ | (refine is_cond ?_; refine aw_cond_f rfl (by assumption) ?_))))
    exact ret_row trivial rfl rfl ⟨rfl, by rw [show k = l.length by omega]; simp⟩
theorem c_eqLabel (x : Lb) : Con Try.prog 51 [rL x, rL x] [] (fun rs all => rs = [rB true] ∧ all = []) := by
  refine con_of_aw (vars := [.tmp 4]) [(0, .r (rL x)), (1, .r (rL x))] [] 0 Try.func51 (by kernel_rfl) rfl Try.ntmps51 rfl (by decide) rfl rfl rfl rfl rfl ?_; intro B M w0 ρ0 Z0
  have n1 : (!decide (x.1 = x.1)) = false := by rw [eqD]; rfl
  have n2 : (!decide (x.2 = x.2)) = false := by rw [eqD]; rfl
  repeat' (first | (refine is_al ?_; (first | (refine is_bin ?_; refine al_v opx_sneq ⟨rfl, rfl, trivial⟩ trivial rfl ?_) | (refine is_load ?_; refine al_v (opx_ld_box rfl) ⟨rfl, trivial⟩ ⟨rfl, trivial⟩ rfl ?_) | (refine is_fa ?_; refine al_v opx_fa_ref ⟨rfl, trivial⟩ trivial rfl ?_) | (refine is_assign ?_; refine al_v (opx_assign (.raw _)) ⟨rfl, trivial⟩ trivial rfl ?_) | refine al_n opx_boxs ⟨rfl, trivial⟩ trivial rfl ?_ | refine al_nil ?_)) | (refine is_aw ?_; (first | refine aw_seq ?_ | refine aw_region ?_ | refine aw_skip ?_ | refine aw_ret ?_ | (refine is_cond ?_; refine aw_cond_f rfl (by assumption) ?_))))
  exact ret_raw trivial rfl ⟨congrArg (fun b => [rB b]) (rfl), rfl⟩
theorem c_eqLabelS (l : List Lb) (hL : l.length ≤ 2000000) : Con Try.prog 38 [slL l, slL l] [] (fun rs all => rs = [rB true] ∧ all = []) := by
  have hla := lbRs_len (xs := l)
  refine con_of_aw (vars := [.tmp 4]) [(0, .r (slL l)), (1, .r (slL l))] [] 0 Try.func38 (by kernel_rfl) rfl Try.ntmps38 rfl (by decide) rfl rfl rfl rfl rfl ?_; intro B M w0 ρ0 Z0
  have n0 : (!decide (((lbRs l).length : Int) = ((lbRs l).length : Int))) = false := neD _
  have n1 : (!true) = false := rfl
  repeat' (first | (refine is_al ?_; (first | (refine is_move ?_; refine al_v (opx_move (.sl _ _)) ⟨rfl, trivial⟩ trivial rfl ?_) | (refine is_bin ?_; refine al_v opx_neq ⟨rfl, rfl, trivial⟩ trivial rfl ?_) | (refine is_assign ?_; refine al_v (opx_assign (.raw _)) ⟨rfl, trivial⟩ trivial rfl ?_) | (refine is_bi ?_; refine al_v opx_len_sl ⟨rfl, trivial⟩ trivial rfl ?_) | refine al_nil ?_)) | (refine is_aw ?_; (first | refine aw_seq ?_ | refine aw_region ?_ | refine aw_skip ?_ | refine aw_block ?_ | (refine is_cond ?_; refine aw_cond_f rfl (by assumption) ?_))))
  refine aw_loop (γ := Nat) (fun k => [(0, .r (slL l)), (1, .r (slL l)), (4, .b false), (5, .i (k : Int))]) (fun _ => []) (fun _ => 0) (fun k => k ≤ l.length) (fun k => l.length - k) 0 (Nat.zero_le _) (le_mk [] rfl rfl rfl rfl ⟨rfl, rfl, rfl, rfl, trivial⟩ trivial) ?_
  intro k hk
  rcases Nat.lt_or_ge k l.length with hlt | hge
  · have hc : decide ((k : Int) < ((lbRs l).length : Int)) = true := decide_eq_true (by omega)
    obtain ⟨x, hx⟩ : ∃ x, l[k]? = some x := ⟨_, List.getElem?_eq_getElem hlt⟩
    have hxr := lbRs_at hx
    repeat' (first | (refine is_al ?_; (first | (refine is_move ?_; (first | refine al_v (opx_move (.raw _)) ⟨rfl, trivial⟩ trivial rfl ?_ | refine al_v (opx_move (.sl _ _)) ⟨rfl, trivial⟩ trivial rfl ?_)) | (refine is_bin ?_; (first | refine al_v opx_lss ⟨rfl, rfl, trivial⟩ trivial rfl ?_ | refine al_v (opx_add (by unfold InR; omega)) ⟨rfl, rfl, trivial⟩ trivial rfl ?_)) | (refine is_assign ?_; refine al_v (opx_assign (.raw _)) ⟨rfl, trivial⟩ trivial rfl ?_) | (refine is_bi ?_; refine al_v opx_len_sl ⟨rfl, trivial⟩ trivial rfl ?_) | refine al_nil ?_)) | (refine is_ad ?_; (first | (refine isd_move ?_; (first | refine ad_v (opx_move (.raw _)) ⟨rfl, trivial⟩ trivial rfl ?_ | refine ad_v (opx_move (.sl _ _)) ⟨rfl, trivial⟩ trivial rfl ?_)) | (refine isd_load ?_; refine ad_v opx_ld2_imm ⟨rfl, trivial⟩ trivial rfl ?_) | (refine isd_ia ?_; refine ad_v (opx_ia_sl2 hxr (by omega)) ⟨rfl, rfl, trivial⟩ trivial rfl ?_) | (refine isd_call ?_; refine ad_callv2 (by (repeat (first | exact .nil | refine .one rfl rfl ?_ | refine .froz rfl rfl ?_ | refine .row rfl rfl ?_ | refine .rnil rfl ?_ | refine .agg rfl (by (repeat (first | exact .nil | refine .cons (.same rfl) ?_ | refine .cons (.froz rfl) ?_ | refine .cons (.rnil) ?_ | refine .cons (.row rfl rfl) ?_)); (first | done | fail)) ?_)); (first | done | fail)) rfl (c_eqLabel x) rfl ?_) | refine ad_v opx_not ⟨rfl, trivial⟩ trivial rfl ?_ | refine ad_nil (by kernel_rfl) ?_)) | (refine is_aw ?_; (first | refine aw_seq ?_ | refine aw_region ?_ | refine aw_skip ?_ | refine aw_block ?_ | (refine is_cond ?_; (first | refine aw_cond_f rfl rfl ?_ | refine aw_cond_t rfl (by assumption) ?_)) | refine aw_draw mixed ?_)) | refine thn_n ?_)
    exact ⟨k + 1, hlt, by omega, le_mk [] rfl rfl rfl rfl ⟨rfl, rfl, rfl, rfl, trivial⟩ trivial⟩
  · have hc : decide ((k : Int) < ((lbRs l).length : Int)) = false := decide_eq_false (by omega)
    repeat' (first | (refine is_al ?_; (first | (refine is_move ?_; (first | refine al_v (opx_move (.raw _)) ⟨rfl, trivial⟩ trivial rfl ?_ | refine al_v (opx_move (.sl _ _)) ⟨rfl, trivial⟩ trivial rfl ?_)) | (refine is_bin ?_; refine al_v opx_lss ⟨rfl, rfl, trivial⟩ trivial rfl ?_) | (refine is_assign ?_; refine al_v (opx_assign (.raw _)) ⟨rfl, trivial⟩ trivial rfl ?_) | (refine is_bi ?_; refine al_v opx_len_sl ⟨rfl, trivial⟩ trivial rfl ?_) | refine al_nil ?_)) | (refine is_aw ?_; (first | refine aw_seq ?_ | refine aw_region ?_ | refine aw_ret ?_ | refine aw_exit ?_ | (refine is_cond ?_; refine aw_cond_f rfl (by assumption) ?_))))
    exact ret_raw trivial rfl ⟨congrArg (fun b => [rB b]) (rfl), rfl⟩
end Go.Proofs.Ytokhfcfnhgianaa
/-
  The reader of the drawn bytes: the walks.
-/
namespace Go.Proofs.Ytokhfcfnhgianaa
open Go.RowKit
set_option linter.unusedVariables false
set_option linter.unusedSimpArgs false
attribute [local irreducible] AL AW OpX Le AD

end Go.Proofs.Ytokhfcfnhgianaa
/-
  The reader, its answers known.
-/
namespace Go.Proofs.Ytokhfcfnhgianaa
open Go.RowKit
set_option linter.unusedVariables false
set_option linter.unusedSimpArgs false
attribute [local irreducible] AL AW OpX Le AD

end Go.Proofs.Ytokhfcfnhgianaa
/-
  Lists of texts, written out.
-/
namespace Go.Proofs.Ytokhfcfnhgianaa
open Go.RowKit
set_option linter.unusedVariables false
set_option linter.unusedSimpArgs false
end Go.Proofs.Ytokhfcfnhgianaa
/-
  Labels that are drawn: the walks.
-/
namespace Go.Proofs.Ytokhfcfnhgianaa
open Go.RowKit
set_option linter.unusedVariables false
set_option linter.unusedSimpArgs false
attribute [local irreducible] AL AW OpX Le AD

end Go.Proofs.Ytokhfcfnhgianaa
/-
  Parsing labels: the program's walk.
-/
namespace Go.Proofs.Ytokhfcfnhgianaa
open Go.RowKit
set_option linter.unusedVariables false
set_option linter.unusedSimpArgs false
attribute [local irreducible] AL AW OpX Le AD

end Go.Proofs.Ytokhfcfnhgianaa
/-
  Labels: the law that nothing is lost.
-/
namespace Go.Proofs.Ytokhfcfnhgianaa
open Go.RowKit
set_option linter.unusedVariables false
set_option linter.unusedSimpArgs false
attribute [local irreducible] AL AW OpX Le AD

end Go.Proofs.Ytokhfcfnhgianaa
/-
  Groups of samples: the plain law.
-/
namespace Go.Proofs.Ytokhfcfnhgianaa
set_option linter.unusedVariables false
set_option linter.unusedSimpArgs false

abbrev Sm := List Lb × Int
theorem bl_irr : ∀ x : Str, Op.bytesLess x x = false
  | [] => rfl
  | a :: x => by
    have := bl_irr x
    simp only [Op.bytesLess, this, Bool.and_false, Bool.or_false, decide_eq_false_iff_not]
    exact Nat.lt_irrefl _
theorem bl_trans : ∀ {x y z : Str}, Op.bytesLess x y = true → Op.bytesLess y z = true → Op.bytesLess x z = true
  | [], [], _, h, _ => by cases h
  | _ :: _, [], _, h, _ => by cases h
  | _, _ :: _, [], _, h => by cases h
  | [], _ :: _, _ :: _, _, _ => rfl
  | a :: x, b :: y, c :: z, h1, h2 => by
    have ih := @bl_trans x y z
    simp only [Op.bytesLess, Bool.or_eq_true, Bool.and_eq_true, decide_eq_true_eq, beq_iff_eq, UInt8.lt_iff_toNat_lt] at h1 h2 ⊢
    rcases h1 with h1 | ⟨rfl, h1⟩
    · rcases h2 with h2 | ⟨rfl, h2⟩
      · exact .inl (Nat.lt_trans h1 h2)
      · exact .inl h1
    · rcases h2 with h2 | ⟨rfl, h2⟩
      · exact .inl h2
      · exact .inr ⟨rfl, ih h1 h2⟩
theorem bl_tri : ∀ {x y : Str}, Op.bytesLess x y = false → Op.bytesLess y x = false → x = y
  | [], [], _, _ => rfl
  | [], _ :: _, h, _ => by cases h
  | _ :: _, [], _, h => by cases h
  | a :: x, b :: y, h1, h2 => by
    have ih := @bl_tri x y
    simp only [Op.bytesLess, Bool.or_eq_false_iff, Bool.and_eq_false_iff, decide_eq_false_iff_not, beq_eq_false_iff_ne, UInt8.lt_iff_toNat_lt] at h1 h2
    have e : a = b := UInt8.toNat_inj.1 (by omega)
    subst e
    rcases h1.2 with h | h
    · exact absurd rfl h
    · rcases h2.2 with h' | h'
      · exact absurd rfl h'
      · rw [ih h h']
theorem sle_f {x y : Str} : sle x y = false ↔ Op.bytesLess y x = true := by
  unfold sle
  constructor
  · intro h
    simp only [Bool.or_eq_false_iff, beq_eq_false_iff_ne] at h
    cases hb : Op.bytesLess y x with
    | true => rfl
    | false => exact absurd (bl_tri h.1 hb) h.2
  · intro h
    simp only [Bool.or_eq_false_iff, beq_eq_false_iff_ne]
    refine ⟨?_, ?_⟩
    · cases hb : Op.bytesLess x y with
      | false => rfl
      | true => have := bl_trans h hb; rw [bl_irr] at this; cases this
    · rintro rfl
      rw [bl_irr] at h; cases h
theorem VL_iff {l : List Lb} : VL l ↔ l.length ≤ 4 ∧ (∀ x ∈ l, vw x.1 ∧ vw x.2) ∧ l.Pairwise fun a b => Op.bytesLess a.1 b.1 = true := by
  constructor
  · intro h
    refine ⟨h.1, fun x hx => VL_mem h hx, ?_⟩
    have key : ∀ d i (hi : i + d + 1 < l.length), Op.bytesLess (l[i]'(by omega)).1 (l[i + d + 1]'hi).1 = true := by
      intro d
      induction d with
      | zero =>
        intro i hi
        have := (h.2 (i + 1) (l[i + 1]) (List.getElem?_eq_getElem hi)).2.2 (l[i]'(by omega)) (by omega) (List.getElem?_eq_getElem (by omega))
        exact sle_f.1 this
      | succ d ih =>
        intro i hi
        have h1 := ih i (by omega)
        have := (h.2 (i + (d + 1) + 1) (l[i + (d + 1) + 1]) (List.getElem?_eq_getElem hi)).2.2 (l[i + d + 1]'(by omega)) (by omega) (List.getElem?_eq_getElem (by omega))
        exact bl_trans h1 (sle_f.1 this)
    rw [List.pairwise_iff_getElem]
    intro i j hi hj hij
    have := key (j - i - 1) i (by omega)
    simpa [show i + (j - i - 1) + 1 = j by omega] using this
  · rintro ⟨h1, h2, h3⟩
    refine ⟨h1, fun k x hx => ?_⟩
    obtain ⟨a1, a2⟩ := h2 x (List.mem_of_getElem? hx)
    refine ⟨a1, a2, fun y hk hy => sle_f.2 ?_⟩
    obtain ⟨hk1, rfl⟩ := List.getElem?_eq_some_iff.1 hx
    obtain ⟨hk2, rfl⟩ := List.getElem?_eq_some_iff.1 hy
    exact List.pairwise_iff_getElem.1 h3 (k - 1) k hk2 hk1 (by omega)
theorem VL_sub {l m : List Lb} (h : VL l) (hs : m.Sublist l) : VL m := by
  rw [VL_iff] at h ⊢
  exact ⟨Nat.le_trans hs.length_le h.1, fun x hx => h.2.1 x (hs.subset hx), h.2.2.sublist hs⟩
def cmpL : List Lb → List Lb → Int
  | x :: a, y :: b => if Op.bytesLess x.1 y.1 = true then -1 else if sle x.1 y.1 = false then 1 else if Op.bytesLess x.2 y.2 = true then -1 else if sle x.2 y.2 = false then 1 else cmpL a b
  | a, b => (if b.length < a.length then 1 else 0) - (if a.length < b.length then 1 else 0)
theorem cmp_eq {x y : Str} (h1 : ¬ Op.bytesLess x y = true) (h2 : ¬ sle x y = false) : x = y := by
  rw [sle_f] at h2
  exact bl_tri (by simpa using h1) (by simpa using h2)
theorem cmpL_self : ∀ l : List Lb, cmpL l l = 0
  | [] => rfl
  | x :: l => by
    have h1 := bl_irr x.1
    have h2 := bl_irr x.2
    have h3 : sle x.1 x.1 = true := by simp [sle]
    have h4 : sle x.2 x.2 = true := by simp [sle]
    simp [cmpL, h1, h2, h3, h4, cmpL_self l]
theorem cmpL_zero : ∀ {a b : List Lb}, cmpL a b = 0 → a = b
  | [], [], _ => rfl
  | [], y :: b, h => by simp [cmpL] at h
  | x :: a, [], h => by simp [cmpL] at h
  | x :: a, y :: b, h => by
    simp only [cmpL] at h
    split at h
    · omega
    · rename_i h1
      split at h
      · omega
      · rename_i h2
        split at h
        · omega
        · rename_i h3
          split at h
          · omega
          · rename_i h4
            rw [cmpL_zero h]
            exact congrArg (· :: b) (Prod.ext (cmp_eq h1 h2) (cmp_eq h3 h4))
theorem cmpL_iff {a b : List Lb} : cmpL a b = 0 ↔ a = b := ⟨cmpL_zero, fun h => by rw [h]; exact cmpL_self b⟩
def keepL (ns : List Str) (l : List Lb) : List Lb := l.filter fun x => ns.contains x.1
theorem keep_take {ns : List Str} {l : List Lb} {k : Nat} {x : Lb} (h : l[k]? = some x) : keepL ns (l.take (k + 1)) = keepL ns (l.take k) ++ (if ns.contains x.1 = true then [x] else []) := by
  rw [keepL, List.take_add_one, h, List.filter_append, ← keepL]
  congr 1
  simp [List.filter_cons]
theorem keep_len {ns : List Str} {l : List Lb} : (keepL ns l).length ≤ l.length := List.length_filter_le _ _
theorem VL_keep {ns : List Str} {l : List Lb} (h : VL l) : VL (keepL ns l) := VL_sub h List.filter_sublist
def pos (l : List Sm) (k : List Lb) : Nat := l.findIdx fun s => decide (s.1 = k)
theorem pos_le {l : List Sm} {k : List Lb} : pos l k ≤ l.length := List.findIdx_le_length
theorem pos_at {l : List Sm} {k : List Lb} (h : pos l k < l.length) : ∃ v, l[pos l k]? = some (k, v) := by
  have := List.findIdx_getElem (p := fun s : Sm => decide (s.1 = k)) (xs := l) (w := h)
  have e : (l[pos l k]'h).1 = k := of_decide_eq_true this
  refine ⟨(l[pos l k]'h).2, ?_⟩
  rw [List.getElem?_eq_getElem h]
  exact congrArg some (Prod.ext e rfl)
theorem pos_not {l : List Sm} {k : List Lb} {j : Nat} {s : Sm} (hj : j < pos l k) (hs : l[j]? = some s) : s.1 ≠ k := by
  obtain ⟨h1, rfl⟩ := List.getElem?_eq_some_iff.1 hs
  have := List.not_of_lt_findIdx hj
  simpa using this
theorem pos_lt {l : List Sm} {k : List Lb} : pos l k < l.length ↔ k ∈ l.map (·.1) := by
  rw [pos, List.findIdx_lt_length]
  simp only [decide_eq_true_eq, List.mem_map]
theorem pos_eq {l : List Sm} {k : List Lb} {j : Nat} (h1 : ∀ i s, i < j → l[i]? = some s → s.1 ≠ k) (h2 : ∀ s, l[j]? = some s → s.1 = k) (h3 : j ≤ l.length) : pos l k = j := by
  rcases Nat.lt_trichotomy (pos l k) j with h | h | h
  · obtain ⟨v, hv⟩ := pos_at (l := l) (k := k) (by omega)
    exact absurd rfl (h1 _ _ h hv)
  · exact h
  · have hl : j < l.length := Nat.lt_of_lt_of_le h pos_le
    exact absurd (h2 _ (List.getElem?_eq_getElem hl)) (pos_not h (List.getElem?_eq_getElem hl))
def smOk (l : List Sm) (k : Nat) : Prop := ∀ s, l[k]? = some s → VL s.1 ∧ -1000 ≤ s.2 ∧ s.2 ≤ 1000 ∧ ∀ j t, j < k → l[j]? = some t → t.1 ≠ s.1
def VSm (l : List Sm) : Prop := l.length ≤ 8 ∧ ∀ k, smOk l k
open Classical in
noncomputable def vsmB (l : List Sm) : Bool := decide (VSm l)
open Classical in
theorem vsmB_t {l : List Sm} (h : VSm l) : vsmB l = true := by unfold vsmB; exact decide_eq_true h
open Classical in
theorem vsmB_f {l : List Sm} (h : ¬ VSm l) : vsmB l = false := by unfold vsmB; exact decide_eq_false h
open Classical in
theorem vsmB_of {l : List Sm} (h : vsmB l = true) : VSm l := by unfold vsmB at h; exact of_decide_eq_true h
theorem VSm_mem {l : List Sm} (h : VSm l) {s : Sm} (hs : s ∈ l) : VL s.1 ∧ -1000 ≤ s.2 ∧ s.2 ≤ 1000 := by
  obtain ⟨k, hk⟩ := List.mem_iff_getElem?.1 hs
  have := h.2 k s hk
  exact ⟨this.1, this.2.1, this.2.2.1⟩
def foldV (kind : Int) (a v : Int) : Int := if kind = 0 then a + v else if kind = 1 then min a v else if kind = 2 then max a v else a + 1
def fstV (kind : Int) (v : Int) : Int := if kind = 3 then 1 else v
def upd (kind : Int) (out : List Sm) (k : List Lb) (v : Int) : List Sm :=
  match out[pos out k]? with
  | some t => out.set (pos out k) (k, foldV kind t.2 v)
  | none => out ++ [(k, fstV kind v)]
theorem upd_old {kind : Int} {out : List Sm} {k : List Lb} {v a : Int} (h : out[pos out k]? = some (k, a)) : upd kind out k v = out.set (pos out k) (k, foldV kind a v) := by rw [upd, h]
theorem upd_new {kind : Int} {out : List Sm} {k : List Lb} {v : Int} (h : ¬ pos out k < out.length) : upd kind out k v = out ++ [(k, fstV kind v)] := by
  rw [upd, List.getElem?_eq_none (by omega)]
def gst (ns : List Str) (kind : Int) (out : List Sm) (s : Sm) : List Sm := upd kind out (keepL ns s.1) s.2
def grp (ns : List Str) (kind : Int) (l : List Sm) : List Sm := l.foldl (gst ns kind) []
theorem grp_take {ns : List Str} {kind : Int} {l : List Sm} {k : Nat} {s : Sm} (h : l[k]? = some s) : grp ns kind (l.take (k + 1)) = upd kind (grp ns kind (l.take k)) (keepL ns s.1) s.2 := by
  rw [grp, List.take_add_one, h, List.foldl_append]; rfl
theorem grp_snoc {ns : List Str} {kind : Int} {l : List Sm} {s : Sm} : grp ns kind (l ++ [s]) = upd kind (grp ns kind l) (keepL ns s.1) s.2 := by
  rw [grp, List.foldl_append]; rfl
theorem map_set_same {out : List Sm} {i : Nat} {k : List Lb} {a b : Int} (h : out[i]? = some (k, a)) : (out.set i (k, b)).map (·.1) = out.map (·.1) := by
  apply List.ext_getElem?
  intro j
  rw [List.getElem?_map, List.getElem?_map, List.getElem?_set]
  by_cases hj : i = j
  · subst hj
    have := (List.getElem?_eq_some_iff.1 h).1
    rw [if_pos rfl, if_pos this, h]; rfl
  · rw [if_neg hj]
theorem upd_keys {kind : Int} {out : List Sm} {k : List Lb} {v : Int} : (upd kind out k v).map (·.1) = if k ∈ out.map (·.1) then out.map (·.1) else out.map (·.1) ++ [k] := by
  by_cases h : pos out k < out.length
  · obtain ⟨a, ha⟩ := pos_at h
    rw [if_pos (pos_lt.1 h), upd_old ha, map_set_same ha]
  · rw [if_neg (fun hm => h (pos_lt.2 hm)), upd_new h, List.map_append]; rfl
theorem upd_len {kind : Int} {out : List Sm} {k : List Lb} {v : Int} : (upd kind out k v).length ≤ out.length + 1 := by
  have := congrArg List.length (upd_keys (kind := kind) (out := out) (k := k) (v := v))
  rw [List.length_map] at this
  rw [this]
  split <;> simp
theorem grp_len {ns : List Str} {kind : Int} {l : List Sm} : (grp ns kind l).length ≤ l.length := by
  suffices ∀ (l : List Sm) (out : List Sm), (l.foldl (gst ns kind) out).length ≤ out.length + l.length by have := this l []; rw [List.length_nil, Nat.zero_add] at this; exact this
  intro l
  induction l with
  | nil => intro out; simp
  | cons s l ih =>
    intro out
    have h1 := ih (gst ns kind out s)
    have h2 : (gst ns kind out s).length ≤ out.length + 1 := upd_len
    simp only [List.foldl_cons, List.length_cons]; omega
/-- Induction along what has been grouped. -/
theorem grp_ind {ns : List Str} {kind : Int} {P : List Sm → List Sm → Prop} (h0 : P [] []) (hs : ∀ l s, P l (grp ns kind l) → P (l ++ [s]) (upd kind (grp ns kind l) (keepL ns s.1) s.2)) (l : List Sm) : P l (grp ns kind l) := by
  suffices ∀ n, ∀ l : List Sm, l.length = n → P l (grp ns kind l) from this l.length l rfl
  intro n
  induction n with
  | zero => intro l hl; obtain rfl := List.eq_nil_of_length_eq_zero hl; exact h0
  | succ n ih =>
    intro l hl
    rcases List.eq_nil_or_concat l with rfl | ⟨l', s, rfl⟩
    · cases hl
    · rw [List.concat_eq_append] at hl ⊢
      rw [grp_snoc]
      exact hs l' s (ih l' (by simpa using hl))
theorem grp_VL {ns : List Str} {kind : Int} (l : List Sm) (h : ∀ s ∈ l, VL s.1) : ∀ t ∈ grp ns kind l, VL t.1 := by
  have key := grp_ind (ns := ns) (kind := kind) (P := fun l o => (∀ s ∈ l, VL s.1) → ∀ k ∈ o.map (·.1), VL k) (by simp) (fun l s ih hl k hk => by
    rw [upd_keys] at hk
    have ih := ih fun s hs => hl s (List.mem_append_left _ hs)
    split at hk
    · exact ih k hk
    · rcases List.mem_append.1 hk with hk | hk
      · exact ih k hk
      · simp at hk
        subst hk
        exact VL_keep (hl s (by simp))) l h
  exact fun t ht => key t.1 (List.mem_map.2 ⟨t, ht, rfl⟩)
end Go.Proofs.Ytokhfcfnhgianaa
