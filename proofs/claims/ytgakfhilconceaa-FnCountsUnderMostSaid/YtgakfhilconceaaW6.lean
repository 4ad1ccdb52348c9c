/-
  Bounds and counts: the walks.
-/
import Derived.Test.YtgakfhilconceaaW2
import Derived.Test.YtgakfhilconceaaW1
namespace Go.Proofs.Ytgakfhilconceaa
open Go.RowKit
set_option linter.unusedVariables false
set_option linter.unusedSimpArgs false
attribute [local irreducible] AL AW OpX Le AD

/-- All within, and each at least s more than the one before. -/
def allB (lo hi : Int) (ns : List Int) : Bool := ns.all fun x => decide (lo ≤ x ∧ x ≤ hi)
def ascB (s : Int) (ns : List Int) : Bool := (List.range (ns.length - 1)).all fun k => decide (ns.getD k 0 + s ≤ ns.getD (k + 1) 0)
theorem allB_iff {lo hi : Int} {ns : List Int} : allB lo hi ns = true ↔ ∀ (k : Nat) (x : Int), ns[k]? = some x → lo ≤ x ∧ x ≤ hi := by
  simp only [allB, List.all_eq_true, decide_eq_true_eq]
  constructor
  · intro h k x hx; exact h x (List.mem_of_getElem? hx)
  · intro h x hx; obtain ⟨k, hk⟩ := List.getElem?_of_mem hx; exact h k x hk
theorem ascB_iff {s : Int} {ns : List Int} : ascB s ns = true ↔ ∀ (k : Nat) (y x : Int), ns[k]? = some y → ns[k + 1]? = some x → y + s ≤ x := by
  simp only [ascB, List.all_eq_true, decide_eq_true_eq, List.mem_range]
  constructor
  · intro h k y x hy hx
    have := h k (by have := (List.getElem?_eq_some_iff.1 hx).1; omega)
    simpa [List.getD, hy, hx] using this
  · intro h k hk
    have hy : ns[k]? = some (ns[k]'(by omega)) := List.getElem?_eq_getElem (by omega)
    have hx : ns[k + 1]? = some (ns[k + 1]'(by omega)) := List.getElem?_eq_getElem (by omega)
    have := h k _ _ hy hx
    simpa [List.getD, hy, hx] using this
theorem allB_f {lo hi : Int} {ns : List Int} {k : Nat} {x : Int} (hx : ns[k]? = some x) (h : ¬ (lo ≤ x ∧ x ≤ hi)) : allB lo hi ns = false := by
  cases e : allB lo hi ns with
  | false => rfl
  | true => exact absurd (allB_iff.1 e k x hx) h
theorem ascB_f {s : Int} {ns : List Int} {k : Nat} {x y : Int} (hy : ns[k]? = some y) (hx : ns[k + 1]? = some x) (h : x < y + s) : ascB s ns = false := by
  cases e : ascB s ns with
  | false => rfl
  | true => have := ascB_iff.1 e k y x hy hx; omega
/-- The same up to a place. -/
def upTo (lo hi s : Int) (ns : List Int) (n : Nat) : Prop := (∀ (k : Nat) (x : Int), k < n → ns[k]? = some x → lo ≤ x ∧ x ≤ hi) ∧ ∀ (k : Nat) (y x : Int), k + 1 < n → ns[k]? = some y → ns[k + 1]? = some x → y + s ≤ x
theorem upTo_zero {lo hi s : Int} {ns : List Int} : upTo lo hi s ns 0 := ⟨fun k x h => by omega, fun k y x h => by omega⟩
theorem upTo_one {lo hi s : Int} {ns : List Int} {x : Int} (hx : ns[0]? = some x) (h : lo ≤ x ∧ x ≤ hi) : upTo lo hi s ns 1 :=
  ⟨fun k x' hk h' => by rw [show k = 0 by omega, hx] at h'; cases h'; exact h, fun k y x h => by omega⟩
theorem upTo_succ {lo hi s : Int} {ns : List Int} {n : Nat} {x y : Int} (h : upTo lo hi s ns (n + 1)) (hy : ns[n]? = some y) (hx : ns[n + 1]? = some x) (h1 : lo ≤ x ∧ x ≤ hi) (h2 : y + s ≤ x) : upTo lo hi s ns (n + 1 + 1) := by
  refine ⟨fun k x' hk h' => ?_, fun k y' x' hk hy' hx' => ?_⟩
  · rcases Nat.lt_or_ge k (n + 1) with h3 | h3
    · exact h.1 k x' h3 h'
    · rw [show k = n + 1 by omega, hx] at h'; cases h'; exact h1
  · rcases Nat.lt_or_ge k n with h3 | h3
    · exact h.2 k y' x' (by omega) hy' hx'
    · rw [show k = n by omega] at hy' hx'
      rw [hy] at hy'; rw [hx] at hx'; cases hy'; cases hx'; exact h2
theorem upTo_all {lo hi s : Int} {ns : List Int} (h : upTo lo hi s ns ns.length) : allB lo hi ns = true ∧ ascB s ns = true :=
  ⟨allB_iff.2 fun k x hx => h.1 k x (List.getElem?_eq_some_iff.1 hx).1 hx, ascB_iff.2 fun k y x hy hx => h.2 k y x (List.getElem?_eq_some_iff.1 hx).1 hy hx⟩

def vbB (ns : List Int) : Bool := decide (ns.length ≤ 8) && (allB (-1000) 1000 ns && ascB 1 ns)
def vcB (ns : List Int) : Bool := allB 0 100 ns && ascB 0 ns

theorem c_validBounds (ns : List Int) : Con Try.prog 48 [slI ns] [] (fun rs all => rs = [rB (vbB ns)] ∧ all = []) := by
  have hlen := inRs_len (ns := ns)
  refine con_of_aw (vars := [.tmp 2]) [(0, .r (slI ns))] [] 0 Try.func48 (by kernel_rfl) rfl Try.ntmps48 rfl (by decide) rfl rfl rfl rfl rfl ?_
  intro B M w0 ρ0 Z0
  repeat' (first | (refine is_al ?_; (first | (refine is_move ?_; (first | refine al_v (opx_move (.raw _)) ⟨rfl, trivial⟩ trivial rfl ?_ | refine al_v (opx_move (.sl _ _)) ⟨rfl, trivial⟩ trivial rfl ?_)) | (refine is_bin ?_; refine al_v opx_gtr ⟨rfl, rfl, trivial⟩ trivial rfl ?_) | (refine is_assign ?_; refine al_v (opx_assign (.raw _)) ⟨rfl, trivial⟩ trivial rfl ?_) | (refine is_bi ?_; refine al_v opx_len_sl ⟨rfl, trivial⟩ trivial rfl ?_) | refine al_nil ?_)) | (refine is_aw ?_; (first | refine aw_seq ?_ | refine aw_region ?_ | refine aw_skip ?_ | refine aw_block ?_ | refine aw_ret ?_ | (refine is_cond ?_; (refine aw_cond rfl ?_ ?_ <;> ((intro hgd; try exact absurd hgd (by decide)); (try (have hz := hgd; simp only [decide_eq_true_eq, decide_eq_false_iff_not, Bool.not_eq_true', Bool.not_eq_false', Bool.not_true, Bool.not_false, beq_iff_eq, Int.not_le, Int.not_lt] at hz)); (try (exfalso; omega))))))) | refine thn_r ?_)
  · exact ret_raw trivial rfl ⟨congrArg (fun b => [rB b]) (by rw [vbB, decide_eq_false (by omega)]; rfl), rfl⟩
  refine aw_loop (γ := Nat) (fun k => [(0, .r (slI ns)), (2, .b false), (8, .r (slI ns)), (9, .i ((inRs ns).length : Int)), (10, .i (k : Int))]) (fun _ => []) (fun _ => 0)
    (fun k => k ≤ ns.length ∧ upTo (-1000) 1000 1 ns k) (fun k => ns.length - k) 0 ⟨Nat.zero_le _, upTo_zero⟩ (le_mk [] rfl rfl rfl rfl ⟨rfl, rfl, rfl, rfl, rfl, trivial⟩ trivial) ?_
  rintro k ⟨hk, hok⟩
  rcases Nat.lt_or_ge k ns.length with hlt | hge
  · have hc : decide ((k : Int) < ((inRs ns).length : Int)) = true := decide_eq_true (by omega)
    obtain ⟨p, hp⟩ : ∃ p, ns[k]? = some p := ⟨_, List.getElem?_eq_getElem hlt⟩
    have hpr := inRs_at hp
    rcases k with _ | k
    · have hc0 : decide (((0 : Nat) : Int) > 0) = false := rfl
      repeat' (first | (refine is_al ?_; (first | (refine is_gd ?_; (first | refine al_on rfl rfl rfl (by assumption) ?_ | refine al_off rfl rfl rfl (by assumption) rfl ?_ | refine al_off2 rfl rfl rfl ?_ | (refine al_g rfl rfl rfl rfl ?_ ?_ <;> ((intro hgd; try exact absurd hgd (by decide)); (try (have hz := hgd; simp only [decide_eq_true_eq, decide_eq_false_iff_not, Bool.not_eq_true', Bool.not_eq_false', Bool.not_true, Bool.not_false, beq_iff_eq, Int.not_le, Int.not_lt] at hz)); (try (exfalso; omega)))))) | (refine is_move ?_; refine al_v (opx_move (.raw _)) ⟨rfl, trivial⟩ trivial rfl ?_) | (refine is_bin ?_; (first | refine al_v opx_lss ⟨rfl, rfl, trivial⟩ trivial rfl ?_ | refine al_v opx_gtr ⟨rfl, rfl, trivial⟩ trivial rfl ?_ | refine al_v (opx_add (by unfold InR; omega)) ⟨rfl, rfl, trivial⟩ trivial rfl ?_)) | (refine is_load ?_; refine al_v opx_ld_imm ⟨rfl, trivial⟩ trivial rfl ?_) | (refine is_assign ?_; refine al_v (opx_assign (.raw _)) ⟨rfl, trivial⟩ trivial rfl ?_) | (refine is_pick ?_; (first | refine al_v (opx_pick_t (.raw _) rfl) ⟨rfl, rfl, trivial⟩ trivial rfl ?_ | refine al_v (opx_pick_f (.raw _) rfl) ⟨rfl, rfl, trivial⟩ trivial rfl ?_ | refine al_v (opx_pick_t (.raw _) (by assumption)) ⟨rfl, rfl, trivial⟩ trivial rfl ?_ | refine al_v (opx_pick_f (.raw _) (by assumption)) ⟨rfl, rfl, trivial⟩ trivial rfl ?_)) | (refine is_ia ?_; refine al_v (opx_ia_sl2 hpr (by omega)) ⟨rfl, rfl, trivial⟩ trivial rfl ?_) | refine al_nil ?_)) | (refine is_aw ?_; (first | refine aw_seq ?_ | refine aw_region ?_ | refine aw_skip ?_ | refine aw_block ?_ | refine aw_ret ?_ | (refine is_cond ?_; (first | refine aw_cond_t rfl rfl ?_ | refine aw_cond_f rfl rfl ?_ | refine aw_cond_t rfl (by assumption) ?_)))) | refine thn_n ?_ | refine thn_r ?_ | refine inb_r ?_)
      · exact ⟨1, ⟨hlt, upTo_one hp ⟨by omega, by omega⟩⟩, by omega, le_mk [] rfl rfl rfl rfl ⟨rfl, rfl, rfl, rfl, rfl, trivial⟩ trivial⟩
      all_goals exact ret_raw trivial rfl ⟨congrArg (fun b => [rB b]) (by rw [vbB, allB_f hp (by omega), Bool.false_and, Bool.and_false]), rfl⟩
    · obtain ⟨q, hq⟩ : ∃ q, ns[k]? = some q := ⟨_, List.getElem?_eq_getElem (by omega)⟩
      have hqr := inRs_at hq
      have hc1 : decide (0 < ((k + 1 : Nat) : Int)) = true := decide_eq_true (by omega)
      repeat' (first | (refine is_al ?_; (first | (refine is_gd ?_; (first | refine al_on rfl rfl rfl (by assumption) ?_ | refine al_off rfl rfl rfl (by assumption) rfl ?_ | refine al_off2 rfl rfl rfl ?_ | (refine al_g rfl rfl rfl rfl ?_ ?_ <;> ((intro hgd; try exact absurd hgd (by decide)); (try (have hz := hgd; simp only [decide_eq_true_eq, decide_eq_false_iff_not, Bool.not_eq_true', Bool.not_eq_false', Bool.not_true, Bool.not_false, beq_iff_eq, Int.not_le, Int.not_lt] at hz)); (try (exfalso; omega)))))) | (refine is_move ?_; (first | refine al_v (opx_move (.raw _)) ⟨rfl, trivial⟩ trivial rfl ?_ | refine al_v (opx_move (.sl _ _)) ⟨rfl, trivial⟩ trivial rfl ?_)) | (refine is_bin ?_; (first | refine al_v opx_lss ⟨rfl, rfl, trivial⟩ trivial rfl ?_ | refine al_v opx_leq ⟨rfl, rfl, trivial⟩ trivial rfl ?_ | refine al_v opx_gtr ⟨rfl, rfl, trivial⟩ trivial rfl ?_ | refine al_v (opx_add (by unfold InR; omega)) ⟨rfl, rfl, trivial⟩ trivial rfl ?_ | refine al_v (opx_sub (by unfold InR; omega)) ⟨rfl, rfl, trivial⟩ trivial rfl ?_)) | (refine is_load ?_; refine al_v opx_ld_imm ⟨rfl, trivial⟩ trivial rfl ?_) | (refine is_assign ?_; refine al_v (opx_assign (.raw _)) ⟨rfl, trivial⟩ trivial rfl ?_) | (refine is_pick ?_; (first | refine al_v (opx_pick_t (.raw _) rfl) ⟨rfl, rfl, trivial⟩ trivial rfl ?_ | refine al_v (opx_pick_t (.raw _) (by assumption)) ⟨rfl, rfl, trivial⟩ trivial rfl ?_ | refine al_v (opx_pick_f (.raw _) (by assumption)) ⟨rfl, rfl, trivial⟩ trivial rfl ?_)) | (refine is_ia ?_; (first | refine al_v (opx_ia_sl2 hpr (by omega)) ⟨rfl, rfl, trivial⟩ trivial rfl ?_ | refine al_v (opx_ia_sl2 hqr (by omega)) ⟨rfl, rfl, trivial⟩ trivial rfl ?_)) | refine al_nil ?_)) | (refine is_aw ?_; (first | refine aw_seq ?_ | refine aw_region ?_ | refine aw_skip ?_ | refine aw_block ?_ | refine aw_ret ?_ | (refine is_cond ?_; (first | refine aw_cond_t rfl rfl ?_ | refine aw_cond_t rfl (by assumption) ?_ | (refine aw_cond rfl ?_ ?_ <;> ((intro hgd; try exact absurd hgd (by decide)); (try (have hz := hgd; simp only [decide_eq_true_eq, decide_eq_false_iff_not, Bool.not_eq_true', Bool.not_eq_false', Bool.not_true, Bool.not_false, beq_iff_eq, Int.not_le, Int.not_lt] at hz)); (try (exfalso; omega)))))))) | refine thn_n ?_ | refine thn_r ?_ | refine inb_r ?_)
      · exact ret_raw trivial rfl ⟨congrArg (fun b => [rB b]) (by rw [vbB, ascB_f hq hp (by omega), Bool.and_false, Bool.and_false]), rfl⟩
      · exact ⟨k + 1 + 1, ⟨hlt, upTo_succ hok hq hp ⟨by omega, by omega⟩ (by omega)⟩, by omega, le_mk [] rfl rfl rfl rfl ⟨rfl, rfl, rfl, rfl, rfl, trivial⟩ trivial⟩
      all_goals exact ret_raw trivial rfl ⟨congrArg (fun b => [rB b]) (by rw [vbB, allB_f hp (by omega), Bool.false_and, Bool.and_false]), rfl⟩
  · have hc : decide ((k : Int) < ((inRs ns).length : Int)) = false := decide_eq_false (by omega)
    repeat' (first | (refine is_al ?_; (first | (refine is_bin ?_; refine al_v opx_lss ⟨rfl, rfl, trivial⟩ trivial rfl ?_) | (refine is_assign ?_; refine al_v (opx_assign (.raw _)) ⟨rfl, trivial⟩ trivial rfl ?_) | refine al_nil ?_)) | (refine is_aw ?_; (first | refine aw_seq ?_ | refine aw_region ?_ | refine aw_ret ?_ | refine aw_exit ?_ | (refine is_cond ?_; refine aw_cond_f rfl (by assumption) ?_))))
    exact ret_raw trivial rfl ⟨congrArg (fun b => [rB b]) (by obtain ⟨h1, h2⟩ := upTo_all (by rw [show ns.length = k by omega]; exact hok); rw [vbB, decide_eq_true (by omega), h1, h2]; rfl), rfl⟩

theorem c_validCounts (ns : List Int) (hL : ns.length < 4611686018427387904) : Con Try.prog 50 [slI ns] [] (fun rs all => rs = [rB (vcB ns)] ∧ all = []) := by
  have hlen := inRs_len (ns := ns)
  refine con_of_aw (vars := [.tmp 2]) [(0, .r (slI ns))] [] 0 Try.func50 (by kernel_rfl) rfl Try.ntmps50 rfl (by decide) rfl rfl rfl rfl rfl ?_
  intro B M w0 ρ0 Z0
  repeat' (first | (refine is_al ?_; (first | (refine is_move ?_; (first | refine al_v (opx_move (.raw _)) ⟨rfl, trivial⟩ trivial rfl ?_ | refine al_v (opx_move (.sl _ _)) ⟨rfl, trivial⟩ trivial rfl ?_)) | (refine is_assign ?_; refine al_v (opx_assign (.raw _)) ⟨rfl, trivial⟩ trivial rfl ?_) | (refine is_bi ?_; refine al_v opx_len_sl ⟨rfl, trivial⟩ trivial rfl ?_) | refine al_nil ?_)) | (refine is_aw ?_; (first | refine aw_seq ?_ | refine aw_region ?_ | refine aw_block ?_)))
  refine aw_loop (γ := Nat) (fun k => [(0, .r (slI ns)), (2, .b false), (5, .r (slI ns)), (6, .i ((inRs ns).length : Int)), (7, .i (k : Int))]) (fun _ => []) (fun _ => 0)
    (fun k => k ≤ ns.length ∧ upTo 0 100 0 ns k) (fun k => ns.length - k) 0 ⟨Nat.zero_le _, upTo_zero⟩ (le_mk [] rfl rfl rfl rfl ⟨rfl, rfl, rfl, rfl, rfl, trivial⟩ trivial) ?_
  rintro k ⟨hk, hok⟩
  rcases Nat.lt_or_ge k ns.length with hlt | hge
  · have hc : decide ((k : Int) < ((inRs ns).length : Int)) = true := decide_eq_true (by omega)
    obtain ⟨p, hp⟩ : ∃ p, ns[k]? = some p := ⟨_, List.getElem?_eq_getElem hlt⟩
    have hpr := inRs_at hp
    rcases k with _ | k
    · have hc0 : decide (((0 : Nat) : Int) > 0) = false := rfl
      repeat' (first | (refine is_al ?_; (first | (refine is_gd ?_; (first | refine al_on rfl rfl rfl (by assumption) ?_ | refine al_off rfl rfl rfl (by assumption) rfl ?_ | refine al_off2 rfl rfl rfl ?_ | (refine al_g rfl rfl rfl rfl ?_ ?_ <;> ((intro hgd; try exact absurd hgd (by decide)); (try (have hz := hgd; simp only [decide_eq_true_eq, decide_eq_false_iff_not, Bool.not_eq_true', Bool.not_eq_false', Bool.not_true, Bool.not_false, beq_iff_eq, Int.not_le, Int.not_lt] at hz)); (try (exfalso; omega)))))) | (refine is_move ?_; refine al_v (opx_move (.raw _)) ⟨rfl, trivial⟩ trivial rfl ?_) | (refine is_bin ?_; (first | refine al_v opx_lss ⟨rfl, rfl, trivial⟩ trivial rfl ?_ | refine al_v opx_gtr ⟨rfl, rfl, trivial⟩ trivial rfl ?_ | refine al_v (opx_add (by unfold InR; omega)) ⟨rfl, rfl, trivial⟩ trivial rfl ?_)) | (refine is_load ?_; refine al_v opx_ld_imm ⟨rfl, trivial⟩ trivial rfl ?_) | (refine is_assign ?_; refine al_v (opx_assign (.raw _)) ⟨rfl, trivial⟩ trivial rfl ?_) | (refine is_pick ?_; (first | refine al_v (opx_pick_t (.raw _) rfl) ⟨rfl, rfl, trivial⟩ trivial rfl ?_ | refine al_v (opx_pick_f (.raw _) rfl) ⟨rfl, rfl, trivial⟩ trivial rfl ?_ | refine al_v (opx_pick_t (.raw _) (by assumption)) ⟨rfl, rfl, trivial⟩ trivial rfl ?_ | refine al_v (opx_pick_f (.raw _) (by assumption)) ⟨rfl, rfl, trivial⟩ trivial rfl ?_)) | (refine is_ia ?_; refine al_v (opx_ia_sl2 hpr (by omega)) ⟨rfl, rfl, trivial⟩ trivial rfl ?_) | refine al_nil ?_)) | (refine is_aw ?_; (first | refine aw_seq ?_ | refine aw_region ?_ | refine aw_skip ?_ | refine aw_block ?_ | refine aw_ret ?_ | (refine is_cond ?_; (first | refine aw_cond_t rfl rfl ?_ | refine aw_cond_f rfl rfl ?_ | refine aw_cond_t rfl (by assumption) ?_)))) | refine thn_n ?_ | refine thn_r ?_ | refine inb_r ?_)
      · exact ⟨1, ⟨hlt, upTo_one hp ⟨by omega, by omega⟩⟩, by omega, le_mk [] rfl rfl rfl rfl ⟨rfl, rfl, rfl, rfl, rfl, trivial⟩ trivial⟩
      all_goals exact ret_raw trivial rfl ⟨congrArg (fun b => [rB b]) (by rw [vcB, allB_f hp (by omega), Bool.false_and]), rfl⟩
    · obtain ⟨q, hq⟩ : ∃ q, ns[k]? = some q := ⟨_, List.getElem?_eq_getElem (by omega)⟩
      have hqr := inRs_at hq
      have hc1 : decide (0 < ((k + 1 : Nat) : Int)) = true := decide_eq_true (by omega)
      repeat' (first | (refine is_al ?_; (first | (refine is_gd ?_; (first | refine al_on rfl rfl rfl (by assumption) ?_ | refine al_off rfl rfl rfl (by assumption) rfl ?_ | refine al_off2 rfl rfl rfl ?_ | (refine al_g rfl rfl rfl rfl ?_ ?_ <;> ((intro hgd; try exact absurd hgd (by decide)); (try (have hz := hgd; simp only [decide_eq_true_eq, decide_eq_false_iff_not, Bool.not_eq_true', Bool.not_eq_false', Bool.not_true, Bool.not_false, beq_iff_eq, Int.not_le, Int.not_lt] at hz)); (try (exfalso; omega)))))) | (refine is_move ?_; (first | refine al_v (opx_move (.raw _)) ⟨rfl, trivial⟩ trivial rfl ?_ | refine al_v (opx_move (.sl _ _)) ⟨rfl, trivial⟩ trivial rfl ?_)) | (refine is_bin ?_; (first | refine al_v opx_lss ⟨rfl, rfl, trivial⟩ trivial rfl ?_ | refine al_v opx_gtr ⟨rfl, rfl, trivial⟩ trivial rfl ?_ | refine al_v (opx_add (by unfold InR; omega)) ⟨rfl, rfl, trivial⟩ trivial rfl ?_ | refine al_v (opx_sub (by unfold InR; omega)) ⟨rfl, rfl, trivial⟩ trivial rfl ?_)) | (refine is_load ?_; refine al_v opx_ld_imm ⟨rfl, trivial⟩ trivial rfl ?_) | (refine is_assign ?_; refine al_v (opx_assign (.raw _)) ⟨rfl, trivial⟩ trivial rfl ?_) | (refine is_pick ?_; (first | refine al_v (opx_pick_t (.raw _) rfl) ⟨rfl, rfl, trivial⟩ trivial rfl ?_ | refine al_v (opx_pick_t (.raw _) (by assumption)) ⟨rfl, rfl, trivial⟩ trivial rfl ?_ | refine al_v (opx_pick_f (.raw _) (by assumption)) ⟨rfl, rfl, trivial⟩ trivial rfl ?_)) | (refine is_ia ?_; (first | refine al_v (opx_ia_sl2 hpr (by omega)) ⟨rfl, rfl, trivial⟩ trivial rfl ?_ | refine al_v (opx_ia_sl2 hqr (by omega)) ⟨rfl, rfl, trivial⟩ trivial rfl ?_)) | refine al_nil ?_)) | (refine is_aw ?_; (first | refine aw_seq ?_ | refine aw_region ?_ | refine aw_skip ?_ | refine aw_block ?_ | refine aw_ret ?_ | (refine is_cond ?_; (first | refine aw_cond_t rfl rfl ?_ | refine aw_cond_t rfl (by assumption) ?_ | (refine aw_cond rfl ?_ ?_ <;> ((intro hgd; try exact absurd hgd (by decide)); (try (have hz := hgd; simp only [decide_eq_true_eq, decide_eq_false_iff_not, Bool.not_eq_true', Bool.not_eq_false', Bool.not_true, Bool.not_false, beq_iff_eq, Int.not_le, Int.not_lt] at hz)); (try (exfalso; omega)))))))) | refine thn_n ?_ | refine thn_r ?_ | refine inb_r ?_)
      · exact ret_raw trivial rfl ⟨congrArg (fun b => [rB b]) (by rw [vcB, ascB_f hq hp (by omega), Bool.and_false]), rfl⟩
      · exact ⟨k + 1 + 1, ⟨hlt, upTo_succ hok hq hp ⟨by omega, by omega⟩ (by omega)⟩, by omega, le_mk [] rfl rfl rfl rfl ⟨rfl, rfl, rfl, rfl, rfl, trivial⟩ trivial⟩
      all_goals exact ret_raw trivial rfl ⟨congrArg (fun b => [rB b]) (by rw [vcB, allB_f hp (by omega), Bool.false_and]), rfl⟩
  · have hc : decide ((k : Int) < ((inRs ns).length : Int)) = false := decide_eq_false (by omega)
    repeat' (first | (refine is_al ?_; (first | (refine is_bin ?_; refine al_v opx_lss ⟨rfl, rfl, trivial⟩ trivial rfl ?_) | (refine is_assign ?_; refine al_v (opx_assign (.raw _)) ⟨rfl, trivial⟩ trivial rfl ?_) | refine al_nil ?_)) | (refine is_aw ?_; (first | refine aw_seq ?_ | refine aw_region ?_ | refine aw_ret ?_ | refine aw_exit ?_ | (refine is_cond ?_; refine aw_cond_f rfl (by assumption) ?_))))
    exact ret_raw trivial rfl ⟨congrArg (fun b => [rB b]) (by obtain ⟨h1, h2⟩ := upTo_all (by rw [show ns.length = k by omega]; exact hok); rw [vcB, h1, h2]; rfl), rfl⟩

theorem c_allIn (ns : List Int) (lo hi : Int) (hL : ns.length < 4611686018427387904) : Con Try.prog 59 [slI ns, rI lo, rI hi] [] (fun rs all => rs = [rB (allB lo hi ns)] ∧ all = []) := by
  have hlen := inRs_len (ns := ns)
  refine con_of_aw (vars := [.tmp 6]) [(0, .r (slI ns)), (1, .r (rI lo)), (2, .r (rI hi))] [] 0 Try.func59 (by kernel_rfl) rfl Try.ntmps59 rfl (by decide) rfl rfl rfl rfl rfl ?_
  intro B M w0 ρ0 Z0
  repeat' (first | (refine is_al ?_; (first | (refine is_assign ?_; refine al_v (opx_assign (.raw _)) ⟨rfl, trivial⟩ trivial rfl ?_) | refine al_nil ?_)) | (refine is_aw ?_; (first | refine aw_seq ?_ | refine aw_region ?_ | refine aw_block ?_)))
  refine aw_loop (γ := Nat) (fun k => [(0, .r (slI ns)), (1, .r (rI lo)), (2, .r (rI hi)), (6, .b false), (7, .i (k : Int))]) (fun _ => []) (fun _ => 0)
    (fun k => k ≤ ns.length ∧ ∀ (j : Nat) (x : Int), j < k → ns[j]? = some x → lo ≤ x ∧ x ≤ hi) (fun k => ns.length - k) 0 ⟨Nat.zero_le _, fun j x h => by omega⟩ (le_mk [] rfl rfl rfl rfl ⟨rfl, rfl, rfl, rfl, rfl, trivial⟩ trivial) ?_
  rintro k ⟨hk, hok⟩
  rcases Nat.lt_or_ge k ns.length with hlt | hge
  · have hc : decide ((k : Int) < ((inRs ns).length : Int)) = true := decide_eq_true (by omega)
    obtain ⟨p, hp⟩ : ∃ p, ns[k]? = some p := ⟨_, List.getElem?_eq_getElem hlt⟩
    have hpr := inRs_at hp
    repeat' (first | (refine is_al ?_; (first | (refine is_move ?_; (first | refine al_v (opx_move (.raw _)) ⟨rfl, trivial⟩ trivial rfl ?_ | refine al_v (opx_move (.sl _ _)) ⟨rfl, trivial⟩ trivial rfl ?_)) | (refine is_bin ?_; (first | refine al_v opx_lss ⟨rfl, rfl, trivial⟩ trivial rfl ?_ | refine al_v (opx_add (by unfold InR; omega)) ⟨rfl, rfl, trivial⟩ trivial rfl ?_)) | (refine is_load ?_; refine al_v opx_ld_imm ⟨rfl, trivial⟩ trivial rfl ?_) | (refine is_assign ?_; refine al_v (opx_assign (.raw _)) ⟨rfl, trivial⟩ trivial rfl ?_) | (refine is_bi ?_; refine al_v opx_len_sl ⟨rfl, trivial⟩ trivial rfl ?_) | (refine is_ia ?_; refine al_v (opx_ia_sl2 hpr (by omega)) ⟨rfl, rfl, trivial⟩ trivial rfl ?_) | (refine is_call ?_; refine al_callv2 (by (repeat (first | exact .nil | refine .one rfl rfl ?_ | refine .froz rfl rfl ?_ | refine .row rfl rfl ?_ | refine .rnil rfl ?_ | refine .agg rfl (by (repeat (first | exact .nil | refine .cons (.same rfl) ?_ | refine .cons (.froz rfl) ?_ | refine .cons (.rnil) ?_ | refine .cons (.row rfl rfl) ?_)); (first | done | fail)) ?_)); (first | done | fail)) rfl (c_inRange _ _ _) rfl ?_) | refine al_v opx_not ⟨rfl, trivial⟩ trivial rfl ?_ | refine al_nil ?_)) | (refine is_aw ?_; (first | refine aw_seq ?_ | refine aw_region ?_ | refine aw_skip ?_ | refine aw_block ?_ | refine aw_ret ?_ | (refine is_cond ?_; (first | refine aw_cond_t rfl (by assumption) ?_ | (refine aw_cond rfl ?_ ?_ <;> ((intro hgd; try exact absurd hgd (by decide)); (try (have hz := hgd; simp only [decide_eq_true_eq, decide_eq_false_iff_not, Bool.not_eq_true', Bool.not_eq_false', Bool.not_true, Bool.not_false, beq_iff_eq, Int.not_le, Int.not_lt] at hz)); (try (exfalso; omega)))))))) | refine thn_n ?_ | refine thn_r ?_ | refine inb_r ?_)
    · exact ret_raw trivial rfl ⟨congrArg (fun b => [rB b]) ((allB_f hp (by assumption)).symm), rfl⟩
    · exact ⟨k + 1, ⟨hlt, fun j x hj hx => by
        rcases Nat.lt_or_ge j k with h | h
        · exact hok j x h hx
        · rw [show j = k by omega, hp] at hx; cases hx; assumption⟩, by omega, le_mk [] rfl rfl rfl rfl ⟨rfl, rfl, rfl, rfl, rfl, trivial⟩ trivial⟩
  · have hc : decide ((k : Int) < ((inRs ns).length : Int)) = false := decide_eq_false (by omega)
    repeat' (first | (refine is_al ?_; (first | (refine is_move ?_; (first | refine al_v (opx_move (.raw _)) ⟨rfl, trivial⟩ trivial rfl ?_ | refine al_v (opx_move (.sl _ _)) ⟨rfl, trivial⟩ trivial rfl ?_)) | (refine is_bin ?_; refine al_v opx_lss ⟨rfl, rfl, trivial⟩ trivial rfl ?_) | (refine is_assign ?_; refine al_v (opx_assign (.raw _)) ⟨rfl, trivial⟩ trivial rfl ?_) | (refine is_bi ?_; refine al_v opx_len_sl ⟨rfl, trivial⟩ trivial rfl ?_) | refine al_nil ?_)) | (refine is_aw ?_; (first | refine aw_seq ?_ | refine aw_region ?_ | refine aw_ret ?_ | refine aw_exit ?_ | (refine is_cond ?_; refine aw_cond_f rfl (by assumption) ?_))))
    exact ret_raw trivial rfl ⟨congrArg (fun b => [rB b]) ((allB_iff.2 fun j x hx => hok j x (by have := (List.getElem?_eq_some_iff.1 hx).1; omega) hx).symm), rfl⟩

theorem c_sValidBounds (ns : List Int) (hL : ns.length < 4611686018427387904) : Con Try.prog 46 [slI ns] [] (fun rs all => rs = [rB (vbB ns)] ∧ all = []) := by
  have hlen := inRs_len (ns := ns)
  refine con_of_aw (vars := [.tmp 2]) [(0, .r (slI ns))] [] 0 Try.func46 (by kernel_rfl) rfl Try.ntmps46 rfl (by decide) rfl rfl rfl rfl rfl ?_
  intro B M w0 ρ0 Z0
  repeat' (first | (refine is_al ?_; (first | (refine is_assign ?_; refine al_v (opx_assign (.raw _)) ⟨rfl, trivial⟩ trivial rfl ?_) | refine al_nil ?_)) | (refine is_aw ?_; (first | refine aw_seq ?_ | refine aw_region ?_ | refine aw_block ?_)))
  refine aw_loop (γ := Nat) (fun k => [(0, .r (slI ns)), (2, .b false), (3, .i (k : Int))]) (fun _ => []) (fun _ => 0)
    (fun k => 1 ≤ k ∧ k ≤ ns.length + 1 ∧ ∀ (j : Nat) (y x : Int), j + 1 < k → ns[j]? = some y → ns[j + 1]? = some x → y + 1 ≤ x) (fun k => ns.length + 1 - k) 1 ⟨Nat.le_refl _, by omega, fun j y x h => by omega⟩ (le_mk [] rfl rfl rfl rfl ⟨rfl, rfl, rfl, trivial⟩ trivial) ?_
  rintro k ⟨hk1, hk, hok⟩
  rcases Nat.lt_or_ge k ns.length with hlt | hge
  · have hc : decide ((k : Int) < ((inRs ns).length : Int)) = true := decide_eq_true (by omega)
    obtain ⟨k, rfl⟩ : ∃ j, k = j + 1 := ⟨k - 1, by omega⟩
    obtain ⟨p, hp⟩ : ∃ p, ns[k + 1]? = some p := ⟨_, List.getElem?_eq_getElem hlt⟩
    have hpr := inRs_at hp
    obtain ⟨q, hq⟩ : ∃ q, ns[k]? = some q := ⟨_, List.getElem?_eq_getElem (by omega)⟩
    have hqr := inRs_at hq
    repeat' (first | (refine is_al ?_; (first | (refine is_move ?_; (first | refine al_v (opx_move (.raw _)) ⟨rfl, trivial⟩ trivial rfl ?_ | refine al_v (opx_move (.sl _ _)) ⟨rfl, trivial⟩ trivial rfl ?_)) | (refine is_bin ?_; (first | refine al_v opx_lss ⟨rfl, rfl, trivial⟩ trivial rfl ?_ | refine al_v (opx_add (by unfold InR; omega)) ⟨rfl, rfl, trivial⟩ trivial rfl ?_)) | (refine is_assign ?_; refine al_v (opx_assign (.raw _)) ⟨rfl, trivial⟩ trivial rfl ?_) | (refine is_bi ?_; refine al_v opx_len_sl ⟨rfl, trivial⟩ trivial rfl ?_) | refine al_nil ?_)) | (refine is_ad ?_; (first | (refine isd_move ?_; (first | refine ad_v (opx_move (.raw _)) ⟨rfl, trivial⟩ trivial rfl ?_ | refine ad_v (opx_move (.sl _ _)) ⟨rfl, trivial⟩ trivial rfl ?_)) | (refine isd_bin ?_; (first | refine ad_v opx_leq ⟨rfl, rfl, trivial⟩ trivial rfl ?_ | refine ad_v (opx_sub (by unfold InR; omega)) ⟨rfl, rfl, trivial⟩ trivial rfl ?_)) | (refine isd_load ?_; refine ad_v opx_ld_imm ⟨rfl, trivial⟩ trivial rfl ?_) | (refine isd_ia ?_; (first | refine ad_v (opx_ia_sl2 hpr (by omega)) ⟨rfl, rfl, trivial⟩ trivial rfl ?_ | refine ad_v (opx_ia_sl2 hqr (by omega)) ⟨rfl, rfl, trivial⟩ trivial rfl ?_)) | refine ad_nil (by kernel_rfl) ?_)) | (refine is_aw ?_; (first | refine aw_seq ?_ | refine aw_region ?_ | refine aw_skip ?_ | refine aw_block ?_ | refine aw_ret ?_ | (refine is_cond ?_; (first | refine aw_cond_t rfl (by assumption) ?_ | (refine aw_cond rfl ?_ ?_ <;> ((intro hgd; try exact absurd hgd (by decide)); (try (have hz := hgd; simp only [decide_eq_true_eq, decide_eq_false_iff_not, Bool.not_eq_true', Bool.not_eq_false', Bool.not_true, Bool.not_false, beq_iff_eq, Int.not_le, Int.not_lt] at hz)); (try (exfalso; omega)))))) | refine aw_draw mixed ?_)) | refine thn_n ?_ | refine thn_r ?_ | refine inb_r ?_)
    · exact ret_raw trivial rfl ⟨congrArg (fun b => [rB b]) (by rw [vbB, ascB_f hq hp (by omega), Bool.and_false, Bool.and_false]), rfl⟩
    · exact ⟨k + 1 + 1, ⟨by omega, by omega, fun j y x hj hy hx => by
        rcases Nat.lt_or_ge j k with h | h
        · exact hok j y x (by omega) hy hx
        · rw [show j = k by omega] at hy hx; rw [hq] at hy; rw [hp] at hx; cases hy; cases hx; omega⟩, by omega, le_mk [] rfl rfl rfl rfl ⟨rfl, rfl, rfl, trivial⟩ trivial⟩
  · have hc : decide ((k : Int) < ((inRs ns).length : Int)) = false := decide_eq_false (by omega)
    have ha : ascB 1 ns = true := ascB_iff.2 fun j y x hy hx => hok j y x (by have := (List.getElem?_eq_some_iff.1 hx).1; omega) hy hx
    have hb : vbB ns = (decide (ns.length ≤ 8) && allB (-1000) 1000 ns) := by rw [vbB, ha, Bool.and_true]
    repeat' (first | (refine is_al ?_; (first | (refine is_gd ?_; (first | refine al_on rfl rfl rfl (by assumption) ?_ | refine al_off rfl rfl rfl (by assumption) rfl ?_ | (refine al_g rfl rfl rfl rfl ?_ ?_ <;> ((intro hgd; try exact absurd hgd (by decide)); (try (have hz := hgd; simp only [decide_eq_true_eq, decide_eq_false_iff_not, Bool.not_eq_true', Bool.not_eq_false', Bool.not_true, Bool.not_false, beq_iff_eq, Int.not_le, Int.not_lt] at hz)); (try (exfalso; omega)))))) | (refine is_move ?_; (first | refine al_v (opx_move (.raw _)) ⟨rfl, trivial⟩ trivial rfl ?_ | refine al_v (opx_move (.sl _ _)) ⟨rfl, trivial⟩ trivial rfl ?_)) | (refine is_bin ?_; (first | refine al_v opx_lss ⟨rfl, rfl, trivial⟩ trivial rfl ?_ | refine al_v opx_leq ⟨rfl, rfl, trivial⟩ trivial rfl ?_)) | (refine is_assign ?_; refine al_v (opx_assign (.raw _)) ⟨rfl, trivial⟩ trivial rfl ?_) | (refine is_pick ?_; (first | refine al_v (opx_pick_t (.raw _) (by assumption)) ⟨rfl, rfl, trivial⟩ trivial rfl ?_ | refine al_v (opx_pick_f (.raw _) (by assumption)) ⟨rfl, rfl, trivial⟩ trivial rfl ?_)) | (refine is_bi ?_; refine al_v opx_len_sl ⟨rfl, trivial⟩ trivial rfl ?_) | (refine is_call ?_; refine al_callv2 (by (repeat (first | exact .nil | refine .one rfl rfl ?_ | refine .froz rfl rfl ?_ | refine .row rfl rfl ?_ | refine .rnil rfl ?_ | refine .agg rfl (by (repeat (first | exact .nil | refine .cons (.same rfl) ?_ | refine .cons (.froz rfl) ?_ | refine .cons (.rnil) ?_ | refine .cons (.row rfl rfl) ?_)); (first | done | fail)) ?_)); (first | done | fail)) rfl (c_allIn _ _ _ hL) rfl ?_) | refine al_nil ?_)) | (refine is_aw ?_; (first | refine aw_seq ?_ | refine aw_region ?_ | refine aw_ret ?_ | refine aw_exit ?_ | (refine is_cond ?_; refine aw_cond_f rfl (by assumption) ?_))))
    · exact ret_raw trivial rfl ⟨congrArg (fun b => [rB b]) (by rw [hb, decide_eq_true (by omega), Bool.true_and]), rfl⟩
    · exact ret_raw trivial rfl ⟨congrArg (fun b => [rB b]) (by rw [hb, decide_eq_false (by omega), Bool.false_and]), rfl⟩

end Go.Proofs.Ytgakfhilconceaa
