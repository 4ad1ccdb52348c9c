/- Texts: W121 W122 W70 W106 W71 W101 W107 W123 W124 W125 -/
import Derived.Test.YtfoecgfboicphaaGreatDoorCL28
import Derived.Test.YtfoecgfboicphaaGreatDoorCL13
import Derived.Test.YtfoecgfboicphaaGreatDoorCL17
import Derived.Test.YtfoecgfboicphaaGreatDoorCL15
import Derived.Test.YtfoecgfboicphaaGreatDoorCL12
import Derived.Test.YtfoecgfboicphaaGreatDoorCL16
import Derived.Test.YtfoecgfboicphaaGreatDoorCL14
/-
  Lists of texts of an exact law: their size, copied, side by side.
-/
namespace Go.Proofs.YtfoecgfboicphaaGreatDoor
open Go.RowKit
set_option linter.unusedVariables false
set_option linter.unusedSimpArgs false
attribute [local irreducible] AL AW OpX Le AD

end Go.Proofs.YtfoecgfboicphaaGreatDoor
/-
  Sessions: the exact law.
-/
namespace Go.Proofs.YtfoecgfboicphaaGreatDoor
open Go.RowKit
set_option linter.unusedVariables false
set_option linter.unusedSimpArgs false
attribute [local irreducible] AL AW OpX Le AD

end Go.Proofs.YtfoecgfboicphaaGreatDoor
/-
  The exact law of parsing labels: the walks.
-/
namespace Go.Proofs.YtfoecgfboicphaaGreatDoor
open Go.RowKit
set_option linter.unusedVariables false
set_option linter.unusedSimpArgs false
attribute [local irreducible] AL AW OpX Le AD

end Go.Proofs.YtfoecgfboicphaaGreatDoor
/-
  Lines: the exact law of their reading.
-/
namespace Go.Proofs.YtfoecgfboicphaaGreatDoor
open Go.RowKit
set_option linter.unusedVariables false
set_option linter.unusedSimpArgs false
attribute [local irreducible] AL AW OpX Le AD

end Go.Proofs.YtfoecgfboicphaaGreatDoor
/-
  Labels have one text: the walks.
-/
namespace Go.Proofs.YtfoecgfboicphaaGreatDoor
open Go.RowKit
set_option linter.unusedVariables false
set_option linter.unusedSimpArgs false
attribute [local irreducible] AL AW OpX Le AD

theorem c_mutate (bs : List UInt8) (p : Int) (s : Str) (hb : bs.length ≤ 1048576) (hp : 0 ≤ p ∧ p ≤ 1099511627000) (hs : s.length ≤ 1000000) :
    Con Tryz.prog 20 [rdA, rStr s] [rdO bs p] (RdG bs (fun s : Str => [rStr s]) fun s' q => p ≤ q ∧ q ≤ p + 3 ∧ s'.length ≤ s.length + 4) := by
  obtain ⟨p1, p2, _⟩ := pkV_ok (n := (s.length : Int) + 1) hb (p := p) (by omega)
  have p2 := p2 (by omega)
  obtain ⟨k, hk⟩ : ∃ k : Nat, pkV bs p ((s.length : Int) + 1) = (k : Int) := ⟨(pkV bs p ((s.length : Int) + 1)).toNat, by omega⟩
  have hkl : k ≤ s.length := by omega
  have hc1 : Con Tryz.prog 17 [rdA, rI ((s.length : Int) + 1)] [rdO bs p] (RdV bs fun r q => q = p + 1 ∧ r = (k : Int)) :=
    (c_pickX bs p ((s.length : Int) + 1) hb (by omega) (by omega)).mono fun rs all ⟨h1, h2⟩ => ⟨_, _, h1, h2, rfl, hk⟩
  obtain ⟨q1, q2, _⟩ := pkV_ok (n := 5) hb (p := p + 1) (by omega)
  have q2 := q2 (by omega)
  obtain ⟨j, hj⟩ : ∃ j : Nat, pkV bs (p + 1) 5 = (j : Int) := ⟨(pkV bs (p + 1) 5).toNat, by omega⟩
  have hc2 : Con Tryz.prog 17 [rdA, rI 5] [rdO bs (p + 1)] (RdV bs fun r q => q = p + 1 + 1 ∧ r = (j : Int)) :=
    (c_pickX bs (p + 1) 5 hb (by omega) (by omega)).mono fun rs all ⟨h1, h2⟩ => ⟨_, _, h1, h2, rfl, hj⟩
  clear p1 p2 hk q1 q2 hj
  refine con_of_aw (vars := [.tmp 4]) [(0, .ref 0 0), (1, .r (rStr s))] [(0, rdO bs p)] 1 Tryz.func20 (by kernel_rfl) rfl Tryz.ntmps20 rfl (by decide) rfl rfl rfl rfl rfl ?_; intro B M w0 ρ0 Z0
  by_cases j0 : j = 0
  · subst j0
    have e0 : decide (((0 : Nat) : Int) = 0) = true := rfl
    by_cases hlt : k < s.length
    · have e1 : decide ((k : Int) < (s.length : Int)) = true := decide_eq_true (by omega)
      have hof : (ofV bs (p + 1 + 1) [[48], [49], [32], [45], [44], [97], [61], [125]]).length ≤ 1 := by
        have := ofV_mem (bs := bs) (p := p + 1 + 1) (ss := [[48], [49], [32], [45], [44], [97], [61], [125]]) hb (by omega) (by simp)
        have hall : ∀ x ∈ ([[48], [49], [32], [45], [44], [97], [61], [125]] : List Str), x.length ≤ 1 := by decide
        exact hall _ this
      repeat' (first | (refine is_al ?_; (first | (refine is_move ?_; (first | refine al_v (opx_move (.raw _)) ⟨rfl, trivial⟩ trivial rfl ?_ | refine al_v (opx_move (.ref _ _)) ⟨rfl, trivial⟩ trivial rfl ?_)) | (refine is_bin ?_; (first | refine al_v opx_eql ⟨rfl, rfl, trivial⟩ trivial rfl ?_ | refine al_v opx_lss ⟨rfl, rfl, trivial⟩ trivial rfl ?_ | refine al_v (opx_add (by unfold InR; omega)) ⟨rfl, rfl, trivial⟩ trivial rfl ?_)) | (refine is_assign ?_; refine al_v (opx_assign (.raw _)) ⟨rfl, trivial⟩ trivial rfl ?_) | (refine is_bi ?_; refine al_v opx_len_str ⟨rfl, trivial⟩ trivial rfl ?_) | (refine is_call ?_; (first | (refine al_rdv 0 rfl rfl (by (repeat (first | exact .nil | refine .one rfl rfl ?_ | refine .tag rfl ?_ | refine .froz rfl rfl ?_ | refine .rnil rfl ?_ | refine .agg rfl (by (repeat (first | exact .nil | refine .cons (.same rfl) ?_ | refine .cons (.froz rfl) ?_ | refine .cons (.rnil) ?_)); (first | done | fail)) ?_)); (first | done | fail)) rfl (hc1) ?_; rintro r q ⟨rfl, rfl⟩) | (refine al_rdv 0 rfl rfl (by (repeat (first | exact .nil | refine .one rfl rfl ?_ | refine .tag rfl ?_ | refine .froz rfl rfl ?_ | refine .rnil rfl ?_ | refine .agg rfl (by (repeat (first | exact .nil | refine .cons (.same rfl) ?_ | refine .cons (.froz rfl) ?_ | refine .cons (.rnil) ?_)); (first | done | fail)) ?_)); (first | done | fail)) rfl (hc2) ?_; rintro r q ⟨rfl, rfl⟩))) | refine al_nil ?_ | refine ad_litS [[48], [49], [32], [45], [44], [97], [61], [125]] (by (repeat (first | exact .nil _ | refine .cons rfl ?_)); (first | done | fail)) rfl rfl rfl ?_ | refine ad_v (opx_cutH_str (h := k) (s' := s.take k) (by rw [List.drop_zero]) rfl (by omega)) ⟨rfl, rfl, trivial⟩ trivial rfl ?_ | refine ad_v (opx_cutL_str (l := k + 1) (s' := s.drop (k + 1)) (by rw [List.take_length]) (by omega) (by omega)) ⟨rfl, rfl, trivial⟩ trivial rfl ?_ | refine ad_v (opx_cat (by simp only [List.length_append, List.length_take, List.length_drop]; omega)) ⟨rfl, rfl, trivial⟩ trivial rfl ?_)) | (refine is_ad ?_; (first | (refine isd_move ?_; (first | refine ad_v (opx_move (.raw _)) ⟨rfl, trivial⟩ trivial rfl ?_ | refine ad_v (opx_move (.ref _ _)) ⟨rfl, trivial⟩ trivial rfl ?_)) | (refine isd_bin ?_; refine ad_v (opx_add (by unfold InR; omega)) ⟨rfl, rfl, trivial⟩ trivial rfl ?_) | (refine isd_assign ?_; refine ad_v (opx_assign (.raw _)) ⟨rfl, trivial⟩ trivial rfl ?_) | (refine isd_call ?_; refine ad_rd 0 rfl (by (repeat (first | exact .nil | refine .one rfl rfl ?_ | refine .tag rfl ?_ | refine .froz rfl rfl ?_ | refine .rnil rfl ?_)); (first | done | fail)) rfl (c_ofX _ _ _ hb (by omega) (by simp)) rfl ?_) | refine ad_nil (by kernel_rfl) ?_ | refine ad_litS [[48], [49], [32], [45], [44], [97], [61], [125]] (by (repeat (first | exact .nil _ | refine .cons rfl ?_)); (first | done | fail)) rfl rfl rfl ?_ | refine ad_v (opx_cutH_str (h := k) (s' := s.take k) (by rw [List.drop_zero]) rfl (by omega)) ⟨rfl, rfl, trivial⟩ trivial rfl ?_ | refine ad_v (opx_cutL_str (l := k + 1) (s' := s.drop (k + 1)) (by rw [List.take_length]) (by omega) (by omega)) ⟨rfl, rfl, trivial⟩ trivial rfl ?_ | refine ad_v (opx_cat (by simp only [List.length_append, List.length_take, List.length_drop]; omega)) ⟨rfl, rfl, trivial⟩ trivial rfl ?_)) | (refine is_aw ?_; (first | refine aw_seq ?_ | refine aw_region ?_ | refine aw_block ?_ | refine aw_ret ?_ | (refine is_cond ?_; (first | refine aw_cond_t rfl rfl ?_ | refine aw_cond_t rfl (by assumption) ?_)) | refine aw_draw mixed ?_)) | refine thn_r ?_ | refine inb_r ?_)
      exact retm_raw trivial rfl rfl rfl ⟨_, _, rfl, rfl, rfl, by omega, by omega, by simp only [List.length_append, List.length_take, List.length_drop]; omega⟩
    · have e1 : decide ((k : Int) < (s.length : Int)) = false := decide_eq_false (by omega)
      repeat' (first | (refine is_al ?_; (first | (refine is_move ?_; (first | refine al_v (opx_move (.raw _)) ⟨rfl, trivial⟩ trivial rfl ?_ | refine al_v (opx_move (.ref _ _)) ⟨rfl, trivial⟩ trivial rfl ?_)) | (refine is_bin ?_; (first | refine al_v opx_eql ⟨rfl, rfl, trivial⟩ trivial rfl ?_ | refine al_v opx_lss ⟨rfl, rfl, trivial⟩ trivial rfl ?_ | refine al_v (opx_add (by unfold InR; omega)) ⟨rfl, rfl, trivial⟩ trivial rfl ?_)) | (refine is_assign ?_; refine al_v (opx_assign (.raw _)) ⟨rfl, trivial⟩ trivial rfl ?_) | (refine is_bi ?_; refine al_v opx_len_str ⟨rfl, trivial⟩ trivial rfl ?_) | (refine is_call ?_; (first | (refine al_rdv 0 rfl rfl (by (repeat (first | exact .nil | refine .one rfl rfl ?_ | refine .tag rfl ?_ | refine .froz rfl rfl ?_ | refine .rnil rfl ?_ | refine .agg rfl (by (repeat (first | exact .nil | refine .cons (.same rfl) ?_ | refine .cons (.froz rfl) ?_ | refine .cons (.rnil) ?_)); (first | done | fail)) ?_)); (first | done | fail)) rfl (hc1) ?_; rintro r q ⟨rfl, rfl⟩) | (refine al_rdv 0 rfl rfl (by (repeat (first | exact .nil | refine .one rfl rfl ?_ | refine .tag rfl ?_ | refine .froz rfl rfl ?_ | refine .rnil rfl ?_ | refine .agg rfl (by (repeat (first | exact .nil | refine .cons (.same rfl) ?_ | refine .cons (.froz rfl) ?_ | refine .cons (.rnil) ?_)); (first | done | fail)) ?_)); (first | done | fail)) rfl (hc2) ?_; rintro r q ⟨rfl, rfl⟩))) | refine al_nil ?_)) | (refine is_aw ?_; (first | refine aw_seq ?_ | refine aw_region ?_ | refine aw_skip ?_ | refine aw_block ?_ | refine aw_ret ?_ | (refine is_cond ?_; (first | refine aw_cond_t rfl rfl ?_ | refine aw_cond_f rfl (by assumption) ?_)))))
      exact retm_raw trivial rfl rfl rfl ⟨_, _, rfl, rfl, rfl, by omega, by omega, by omega⟩
  have e0 : decide ((j : Int) = 0) = false := decide_eq_false (by omega)
  by_cases j1 : j = 1
  · subst j1
    have e1 : decide (((1 : Nat) : Int) = 1) = true := rfl
    repeat' (first | (refine is_al ?_; (first | (refine is_move ?_; (first | refine al_v (opx_move (.raw _)) ⟨rfl, trivial⟩ trivial rfl ?_ | refine al_v (opx_move (.ref _ _)) ⟨rfl, trivial⟩ trivial rfl ?_)) | (refine is_bin ?_; (first | refine al_v opx_eql ⟨rfl, rfl, trivial⟩ trivial rfl ?_ | refine al_v (opx_add (by unfold InR; omega)) ⟨rfl, rfl, trivial⟩ trivial rfl ?_)) | (refine is_assign ?_; refine al_v (opx_assign (.raw _)) ⟨rfl, trivial⟩ trivial rfl ?_) | (refine is_bi ?_; refine al_v opx_len_str ⟨rfl, trivial⟩ trivial rfl ?_) | (refine is_call ?_; (first | (refine al_rdv 0 rfl rfl (by (repeat (first | exact .nil | refine .one rfl rfl ?_ | refine .tag rfl ?_ | refine .froz rfl rfl ?_ | refine .rnil rfl ?_ | refine .agg rfl (by (repeat (first | exact .nil | refine .cons (.same rfl) ?_ | refine .cons (.froz rfl) ?_ | refine .cons (.rnil) ?_)); (first | done | fail)) ?_)); (first | done | fail)) rfl (hc1) ?_; rintro r q ⟨rfl, rfl⟩) | (refine al_rdv 0 rfl rfl (by (repeat (first | exact .nil | refine .one rfl rfl ?_ | refine .tag rfl ?_ | refine .froz rfl rfl ?_ | refine .rnil rfl ?_ | refine .agg rfl (by (repeat (first | exact .nil | refine .cons (.same rfl) ?_ | refine .cons (.froz rfl) ?_ | refine .cons (.rnil) ?_)); (first | done | fail)) ?_)); (first | done | fail)) rfl (hc2) ?_; rintro r q ⟨rfl, rfl⟩))) | refine al_nil ?_ | refine al_v (opx_cutH_str (h := k) (s' := s.take k) (by rw [List.drop_zero]) rfl (by omega)) ⟨rfl, rfl, trivial⟩ trivial rfl ?_)) | (refine is_ad ?_; refine al_v (opx_cutH_str (h := k) (s' := s.take k) (by rw [List.drop_zero]) rfl (by omega)) ⟨rfl, rfl, trivial⟩ trivial rfl ?_) | (refine is_aw ?_; (first | refine aw_seq ?_ | refine aw_region ?_ | refine aw_block ?_ | refine aw_ret ?_ | (refine is_cond ?_; (first | refine aw_cond_t rfl rfl ?_ | refine aw_cond_f rfl rfl ?_)))) | refine thn_r ?_ | refine inb_r ?_)
    exact retm_raw trivial rfl rfl rfl ⟨_, _, rfl, rfl, rfl, by omega, by omega, by rw [List.length_take]; omega⟩
  have e1 : decide ((j : Int) = 1) = false := decide_eq_false (by omega)
  by_cases j2 : j = 2
  · subst j2
    have e2 : decide (((2 : Nat) : Int) = 2) = true := rfl
    have hall : ∀ x ∈ ([[48], [32], [123, 125], [32, 49], [120], [97, 61, 98]] : List Str), x.length ≤ 3 := by decide
    repeat' (first | (refine is_al ?_; (first | (refine is_move ?_; (first | refine al_v (opx_move (.raw _)) ⟨rfl, trivial⟩ trivial rfl ?_ | refine al_v (opx_move (.ref _ _)) ⟨rfl, trivial⟩ trivial rfl ?_)) | (refine is_bin ?_; (first | refine al_v opx_eql ⟨rfl, rfl, trivial⟩ trivial rfl ?_ | refine al_v (opx_add (by unfold InR; omega)) ⟨rfl, rfl, trivial⟩ trivial rfl ?_)) | (refine is_assign ?_; refine al_v (opx_assign (.raw _)) ⟨rfl, trivial⟩ trivial rfl ?_) | (refine is_bi ?_; refine al_v opx_len_str ⟨rfl, trivial⟩ trivial rfl ?_) | (refine is_call ?_; (first | (refine al_rdv 0 rfl rfl (by (repeat (first | exact .nil | refine .one rfl rfl ?_ | refine .tag rfl ?_ | refine .froz rfl rfl ?_ | refine .rnil rfl ?_ | refine .agg rfl (by (repeat (first | exact .nil | refine .cons (.same rfl) ?_ | refine .cons (.froz rfl) ?_ | refine .cons (.rnil) ?_)); (first | done | fail)) ?_)); (first | done | fail)) rfl (hc1) ?_; rintro r q ⟨rfl, rfl⟩) | (refine al_rdv 0 rfl rfl (by (repeat (first | exact .nil | refine .one rfl rfl ?_ | refine .tag rfl ?_ | refine .froz rfl rfl ?_ | refine .rnil rfl ?_ | refine .agg rfl (by (repeat (first | exact .nil | refine .cons (.same rfl) ?_ | refine .cons (.froz rfl) ?_ | refine .cons (.rnil) ?_)); (first | done | fail)) ?_)); (first | done | fail)) rfl (hc2) ?_; rintro r q ⟨rfl, rfl⟩) | (refine al_rdg 0 rfl rfl (by (repeat (first | exact .nil | refine .one rfl rfl ?_ | refine .tag rfl ?_ | refine .froz rfl rfl ?_ | refine .rnil rfl ?_ | refine .agg rfl (by (repeat (first | exact .nil | refine .cons (.same rfl) ?_ | refine .cons (.froz rfl) ?_ | refine .cons (.rnil) ?_)); (first | done | fail)) ?_)); (first | done | fail)) rfl (c_of _ _ _ hb (by omega) (by simp)) ?_; rintro x q3 ⟨rfl, hx⟩; have hx3 := hall _ hx))) | refine al_nil ?_ | refine al_litS [[48], [32], [123, 125], [32, 49], [120], [97, 61, 98]] (by (repeat (first | exact .nil _ | refine .cons rfl ?_)); (first | done | fail)) rfl rfl rfl ?_ | refine al_v (opx_cat (by omega)) ⟨rfl, rfl, trivial⟩ trivial rfl ?_)) | (refine is_ad ?_; (first | refine al_litS [[48], [32], [123, 125], [32, 49], [120], [97, 61, 98]] (by (repeat (first | exact .nil _ | refine .cons rfl ?_)); (first | done | fail)) rfl rfl rfl ?_ | refine al_v (opx_cat (by omega)) ⟨rfl, rfl, trivial⟩ trivial rfl ?_)) | (refine is_aw ?_; (first | refine aw_seq ?_ | refine aw_region ?_ | refine aw_block ?_ | refine aw_ret ?_ | (refine is_cond ?_; (first | refine aw_cond_t rfl rfl ?_ | refine aw_cond_f rfl rfl ?_)))) | refine thn_r ?_ | refine inb_r ?_)
    exact retm_raw trivial rfl rfl rfl ⟨_, _, rfl, rfl, rfl, by omega, by omega, by rw [List.length_append]; have := hall _ (by assumption); omega⟩
  have e2 : decide ((j : Int) = 2) = false := decide_eq_false (by omega)
  repeat' (first | (refine is_al ?_; (first | (refine is_move ?_; (first | refine al_v (opx_move (.raw _)) ⟨rfl, trivial⟩ trivial rfl ?_ | refine al_v (opx_move (.ref _ _)) ⟨rfl, trivial⟩ trivial rfl ?_)) | (refine is_bin ?_; (first | refine al_v opx_eql ⟨rfl, rfl, trivial⟩ trivial rfl ?_ | refine al_v (opx_add (by unfold InR; omega)) ⟨rfl, rfl, trivial⟩ trivial rfl ?_)) | (refine is_assign ?_; refine al_v (opx_assign (.raw _)) ⟨rfl, trivial⟩ trivial rfl ?_) | (refine is_bi ?_; refine al_v opx_len_str ⟨rfl, trivial⟩ trivial rfl ?_) | (refine is_call ?_; (first | (refine al_rdv 0 rfl rfl (by (repeat (first | exact .nil | refine .one rfl rfl ?_ | refine .tag rfl ?_ | refine .froz rfl rfl ?_ | refine .rnil rfl ?_ | refine .agg rfl (by (repeat (first | exact .nil | refine .cons (.same rfl) ?_ | refine .cons (.froz rfl) ?_ | refine .cons (.rnil) ?_)); (first | done | fail)) ?_)); (first | done | fail)) rfl (hc1) ?_; rintro r q ⟨rfl, rfl⟩) | (refine al_rdv 0 rfl rfl (by (repeat (first | exact .nil | refine .one rfl rfl ?_ | refine .tag rfl ?_ | refine .froz rfl rfl ?_ | refine .rnil rfl ?_ | refine .agg rfl (by (repeat (first | exact .nil | refine .cons (.same rfl) ?_ | refine .cons (.froz rfl) ?_ | refine .cons (.rnil) ?_)); (first | done | fail)) ?_)); (first | done | fail)) rfl (hc2) ?_; rintro r q ⟨rfl, rfl⟩))) | refine al_nil ?_)) | (refine is_aw ?_; (first | refine aw_seq ?_ | refine aw_region ?_ | refine aw_skip ?_ | refine aw_block ?_ | refine aw_ret ?_ | (refine is_cond ?_; refine aw_cond_f rfl (by assumption) ?_))))
  exact retm_raw trivial rfl rfl rfl ⟨_, _, rfl, rfl, rfl, by omega, by omega, by omega⟩
end Go.Proofs.YtfoecgfboicphaaGreatDoor
/-
  Lines have three words: the law.
-/
namespace Go.Proofs.YtfoecgfboicphaaGreatDoor
open Go.RowKit
set_option linter.unusedVariables false
set_option linter.unusedSimpArgs false
attribute [local irreducible] AL AW OpX Le AD

theorem dec_low : ∀ (n : Nat) {u : Nat}, u ≤ n → ∀ c ∈ Lib.decDigits u, 48 ≤ c.toNat ∧ c.toNat ≤ 57
  | n, u, h, c, hc => by
    by_cases h1 : u < 10
    · rw [dec_small h1] at hc
      obtain rfl := List.mem_singleton.1 hc
      rw [UInt8.toNat_ofNat']; omega
    · rw [dec_big h1] at hc
      rcases List.mem_append.1 hc with hc | hc
      · match n with
        | 0 => omega
        | n + 1 => exact dec_low n (by omega) c hc
      · obtain rfl := List.mem_singleton.1 hc
        rw [UInt8.toNat_ofNat']; omega
theorem itoa_no (n : Int) : (32 : UInt8) ∉ Lib.itoa n := by
  intro h
  unfold Lib.itoa at h
  split at h
  · rcases List.mem_cons.1 h with h | h
    · cases h
    · have := dec_low _ (Nat.le_refl _) _ h
      exact absurd this (by decide)
  · have := dec_low _ (Nat.le_refl _) _ h
    exact absurd this (by decide)
theorem mem_jn {c d : UInt8} (hcd : d ≠ c) : ∀ {l : List Str}, (∀ p ∈ l, d ∉ p) → d ∉ jn c l
  | [], _, h => by cases h
  | [x], hl, h => hl x (.head _) h
  | x :: y :: r, hl, h => by
    rw [jn_cons (by simp)] at h
    rcases List.mem_append.1 h with h | h
    · exact hl x (.head _) h
    · rcases List.mem_cons.1 h with h | h
      · exact hcd h
      · exact mem_jn hcd (fun p hp => hl p (.tail _ hp)) h
theorem txt_no {l : List Lb} (h : VL l) : (32 : UInt8) ∉ txt l := by
  intro hm
  rw [txt] at hm
  rcases List.mem_cons.1 hm with hm | hm
  · cases hm
  · rcases List.mem_append.1 hm with hm | hm
    · refine mem_jn (by decide) (fun p hp => ?_) hm
      obtain ⟨x, hx, rfl⟩ := List.mem_map.1 hp
      obtain ⟨a, b⟩ := VL_mem h hx
      intro h1
      rcases List.mem_append.1 h1 with h1 | h1
      · exact vw_not a (by decide) h1
      · rcases List.mem_cons.1 h1 with h1 | h1
        · cases h1
        · exact vw_not b (by decide) h1
    · simp at hm
end Go.Proofs.YtfoecgfboicphaaGreatDoor
/-
  Lines: the plain laws of texts and words, drawing.
-/
namespace Go.Proofs.YtfoecgfboicphaaGreatDoor
open Go.RowKit
set_option linter.unusedVariables false
set_option linter.unusedSimpArgs false
attribute [local irreducible] AL AW OpX Le AD

theorem dec_len10 : ∀ (k : Nat) {u : Nat}, u < 10 ^ (k + 1) → (Lib.decDigits u).length ≤ k + 1
  | k, u, h => by
    by_cases h1 : u < 10
    · rw [dec_small h1]; simp
    · rw [dec_big h1, List.length_append]
      match k with
      | 0 => omega
      | k + 1 =>
        have := dec_len10 k (u := u / 10) (by rw [Nat.pow_succ] at h; omega)
        simp; omega
theorem itoa_len5 {n : Int} (h : -1000 ≤ n ∧ n ≤ 1000) : (Lib.itoa n).length ≤ 5 := by
  unfold Lib.itoa
  split
  · have := dec_len10 3 (u := n.natAbs) (by omega)
    rw [List.length_cons]; omega
  · have := dec_len10 3 (u := n.toNat) (by omega)
    omega
theorem lnB_of {l : List Lb} {t v : Int} (h : lnB l t v = true) : VL l ∧ 0 ≤ t ∧ t ≤ 1000 ∧ -1000 ≤ v ∧ v ≤ 1000 := by
  unfold lnB at h
  simp only [Bool.and_eq_true, decide_eq_true_eq] at h
  exact ⟨vlB_of h.1, h.2⟩
theorem spl_ln {l : List Lb} {t v : Int} (h : VL l) : spl 32 (lnT l t v) = [txt l, Lib.itoa v, Lib.itoa t] := by
  rw [lnT, show txt l ++ [32] ++ Lib.itoa v ++ [32] ++ Lib.itoa t = txt l ++ 32 :: (Lib.itoa v ++ 32 :: Lib.itoa t) by simp, spl_cut (txt_no h), spl_cut (itoa_no v), spl_none (itoa_no t)]
theorem pl_ln {l : List Lb} {t v : Int} (h : lnB l t v = true) : plB (lnT l t v) = true ∧ plG (lnT l t v) = (l, t, v) := by
  obtain ⟨hV, h1, h2, h3, h4⟩ := lnB_of h
  obtain ⟨p1, p2⟩ := prs_t (s := txt l) ⟨hV, rfl⟩
  obtain ⟨a1, a2⟩ := num_t (itoa_len5 (n := v) (by omega)) rfl
  obtain ⟨b1, b2⟩ := num_t (itoa_len5 (n := t) (by omega)) rfl
  have hw : plW (txt l) (Lib.itoa v) (Lib.itoa t) = true := by
    rw [plW, p1, a1, b1, a2, b2, ptB, decide_eq_true ⟨h1, h2, h3, h4⟩]; rfl
  obtain ⟨f1, f2⟩ := pl_t (spl_ln hV) hw
  exact ⟨f1, by rw [f2, p2, a2, b2]⟩
end Go.Proofs.YtfoecgfboicphaaGreatDoor
/-
  Sessions: lines that are drawn.
-/
namespace Go.Proofs.YtfoecgfboicphaaGreatDoor
open Go.RowKit
set_option linter.unusedVariables false
set_option linter.unusedSimpArgs false
attribute [local irreducible] AL AW OpX Le AD

abbrev lb4 : List Str := [[123, 125], [123, 97, 61, 120, 125], [123, 97, 61, 121, 125], [123, 97, 61, 120, 44, 106, 111, 98, 61, 117, 112, 125]]
abbrev ln8 : List Str := [[99, 111, 117, 110, 116], [115, 117, 109, 32, 123, 97, 61, 120, 125, 32, 48, 32, 49, 48, 48], [115, 117, 109, 32, 123, 125, 32, 48, 32, 49, 48, 48], [115, 117, 109, 32, 123, 97, 61, 120, 125, 32, 120, 32, 53], [], [104, 101, 108, 112], [112, 117, 116, 32, 123, 97, 61, 120, 125, 32, 53], [97, 116, 32, 123, 97, 125, 32, 53]]
theorem len15 {L : List Str} {s : Str} (h : s ∈ L) (hd : ∀ x ∈ L, x.length ≤ 15) : s.length ≤ 15 := hd s h
theorem set_all {α : Type} {p : α → Prop} {l : List α} {k : Nat} {y : α} (h : ∀ x ∈ l, p x) (hy : p y) : ∀ x ∈ l.set k y, p x := fun x hx => by
  rcases List.mem_or_eq_of_mem_set hx with h1 | rfl
  · exact h x h1
  · exact hy
abbrev DrS (rs : List AR) (all : List OB) : Prop := ∃ ls : List Str, rs = [.one (.own 0)] ∧ all = [.row 1 9 (stRs ls)] ∧ ls.length ≤ 16 ∧ ∀ l ∈ ls, l.length ≤ 60
theorem c_drawRunSession0 (bs : List UInt8) (hb : bs.length ≤ 1048576) : Con Tryz.prog 8 [slB bs] [] DrS := by
  refine con_of_aw (vars := [.tmp 2]) [(0, .r (slB bs))] [] 0 Tryz.func8 (by kernel_rfl) rfl Tryz.ntmps8 rfl (by decide) rfl rfl rfl rfl rfl ?_; intro B M w0 ρ0 Z0
  repeat' (first | (refine is_al ?_; (first | (refine is_move ?_; (first | refine al_v (opx_move (.sl _ _)) ⟨rfl, trivial⟩ trivial rfl ?_ | refine al_v (opx_move (.ref _ _)) ⟨rfl, trivial⟩ trivial rfl ?_)) | (refine is_assign ?_; (first | refine al_v (opx_assign (.raw _)) ⟨rfl, trivial⟩ trivial rfl ?_ | refine al_v (opx_assign (.own _)) ⟨rfl, trivial⟩ trivial rfl ?_ | refine al_v (opx_assign (.ref _ _)) ⟨rfl, trivial⟩ trivial rfl ?_)) | (refine is_call ?_; (first | (refine al_newrd (by (repeat (first | exact .nil | refine .one rfl rfl ?_ | refine .froz rfl rfl ?_ | refine .rnil rfl ?_ | refine .agg rfl (by (repeat (first | exact .nil | refine .cons (.same rfl) ?_ | refine .cons (.froz rfl) ?_ | refine .cons (.rnil) ?_)); (first | done | fail)) ?_)); (first | done | fail)) rfl (c_newReader bs hb) ?_; rintro bs hbs) | (refine al_rdv 0 rfl rfl (by (repeat (first | exact .nil | refine .one rfl rfl ?_ | refine .tag rfl ?_ | refine .froz rfl rfl ?_ | refine .rnil rfl ?_ | refine .agg rfl (by (repeat (first | exact .nil | refine .cons (.same rfl) ?_ | refine .cons (.froz rfl) ?_ | refine .cons (.rnil) ?_)); (first | done | fail)) ?_)); (first | done | fail)) rfl (c_one _ _ _ hbs (by omega) (by decide)) ?_; rintro n q1 ⟨rfl, hn⟩))) | (refine is_bs ?_; refine al_n opx_lit0 trivial trivial rfl ?_) | refine al_nil ?_ | refine al_litI [8, 12, 6, 16, 3, 0] (by (repeat (first | exact .nil _ | refine .cons rfl ?_)); (first | done | fail)) rfl rfl rfl ?_)) | (refine is_ad ?_; refine al_litI [8, 12, 6, 16, 3, 0] (by (repeat (first | exact .nil _ | refine .cons rfl ?_)); (first | done | fail)) rfl rfl rfl ?_) | (refine is_aw ?_; (first | refine aw_seq ?_ | refine aw_region ?_ | refine aw_block ?_)))
  obtain ⟨m, rfl, hm⟩ : ∃ m : Nat, n = (m : Int) ∧ m ≤ 16 := by
    simp only [List.mem_cons, List.not_mem_nil, or_false] at hn
    rcases hn with rfl | rfl | rfl | rfl | rfl | rfl
    · exact ⟨8, rfl, by decide⟩
    · exact ⟨12, rfl, by decide⟩
    · exact ⟨6, rfl, by decide⟩
    · exact ⟨16, rfl, by decide⟩
    · exact ⟨3, rfl, by decide⟩
    · exact ⟨0, rfl, by decide⟩
  refine aw_loop (γ := List Str × Nat × Int) (fun g => [(3, .ref 0 0), (4, .own 1), (5, .i (g.2.1 : Int))]) (fun g => [(0, rdO bs g.2.2), (1, .row 1 9 (stRs g.1))]) (fun _ => 2)
    (fun g => 0 ≤ g.2.2 ∧ g.2.2 + 10 * (g.2.1 : Int) ≤ 200 ∧ g.1.length + g.2.1 ≤ 16 ∧ ∀ x ∈ g.1, x.length ≤ 50) (fun g => g.2.1) ([], m, 0 + 1) ⟨by dsimp only; omega, by dsimp only; omega, by dsimp only [List.length_nil]; omega, fun x hx => by cases hx⟩ (le_mk [0, 1] rfl rfl rfl rfl ⟨rfl, rfl, rfl, trivial⟩ ⟨rfl, rfl, trivial⟩) ?_
  rintro ⟨ls, k, q⟩ ⟨h1, h2, h3, h4⟩
  dsimp only at h1 h2 h3 h4 ⊢
  have hlen := stRs_len (xs := ls)
  rcases Nat.eq_zero_or_pos k with h0 | h0
  · subst h0
    have hc1 : decide ((0 : Int) < ((0 : Nat) : Int)) = false := rfl
    have h60 : ∀ x ∈ ls, x.length ≤ 60 := fun x hx => by have := h4 x hx; omega
    rcases Nat.eq_zero_or_pos ls.length with hz0 | hz0
    · have c1 : decide ((0 : Int) < ((stRs ls).length : Int)) = false := decide_eq_false (by omega)
      repeat' (first | (refine is_al ?_; (first | (refine is_gd ?_; refine al_off rfl rfl rfl (by assumption) rfl ?_) | (refine is_move ?_; (first | refine al_v (opx_move (.raw _)) ⟨rfl, trivial⟩ trivial rfl ?_ | refine al_v (opx_move (.own _)) ⟨rfl, trivial⟩ trivial rfl ?_)) | (refine is_bin ?_; refine al_v opx_gtr ⟨rfl, rfl, trivial⟩ trivial rfl ?_) | (refine is_assign ?_; refine al_v (opx_assign (.own _)) ⟨rfl, trivial⟩ trivial rfl ?_) | (refine is_pick ?_; refine al_v (opx_pick_f (.raw _) (by assumption)) ⟨rfl, rfl, trivial⟩ trivial rfl ?_) | (refine is_bi ?_; refine al_v opx_len_own ⟨rfl, trivial⟩ ⟨rfl, trivial⟩ rfl ?_) | refine al_nil ?_)) | (refine is_aw ?_; (first | refine aw_seq ?_ | refine aw_region ?_ | refine aw_skip ?_ | refine aw_ret ?_ | refine aw_exit ?_ | (refine is_cond ?_; refine aw_cond_f rfl rfl ?_))))
      exact ret_row trivial rfl rfl ⟨ls, rfl, rfl, by omega, h60⟩
    have c1 : decide ((0 : Int) < ((stRs ls).length : Int)) = true := decide_eq_true (by omega)
    obtain ⟨p1, p2, _⟩ := pkV_ok (n := (ls.length : Int)) hbs (p := q + 1) (by omega)
    have p2 := p2 (by omega)
    obtain ⟨j, hj⟩ : ∃ j : Nat, pkV bs (q + 1) (ls.length : Int) = (j : Int) := ⟨(pkV bs (q + 1) (ls.length : Int)).toNat, by omega⟩
    have hjl : j < (stRs ls).length := by omega
    obtain ⟨x, hx⟩ : ∃ x, ls[j]? = some x := ⟨_, List.getElem?_eq_getElem (by omega)⟩
    have hxr := stRs_at hx
    have hxl := h4 x (List.mem_of_getElem? hx)
    have hcl : Con Tryz.prog 17 [rdA, rI ((stRs ls).length : Int)] [rdO bs (q + 1)] (RdV bs fun r q' => q' = q + 1 + 1 ∧ r = (j : Int)) := by
      rw [hlen]
      exact (c_pickX bs (q + 1) (ls.length : Int) hbs (by omega) (by omega)).mono fun rs all ⟨h1, h2⟩ => ⟨_, _, h1, h2, rfl, hj⟩
    have hc5 := c_pickQ bs q 5 hbs (by omega) (by omega)
    clear p1 p2 hj
    by_cases h5 : pkV bs q 5 = 0
    · have d5 : decide (pkV bs q 5 = 0) = true := decide_eq_true h5
      repeat' (first | (refine is_al ?_; (first | (refine is_gd ?_; refine al_on rfl rfl rfl (by assumption) ?_) | (refine is_move ?_; (first | refine al_v (opx_move (.raw _)) ⟨rfl, trivial⟩ trivial rfl ?_ | refine al_v (opx_move (.own _)) ⟨rfl, trivial⟩ trivial rfl ?_ | refine al_v (opx_move (.ref _ _)) ⟨rfl, trivial⟩ trivial rfl ?_)) | (refine is_bin ?_; (first | refine al_v opx_eql ⟨rfl, rfl, trivial⟩ trivial rfl ?_ | refine al_v opx_gtr ⟨rfl, rfl, trivial⟩ trivial rfl ?_)) | (refine is_load ?_; refine al_v (opx_ld_el (by assumption) rfl) ⟨rfl, trivial⟩ ⟨rfl, trivial⟩ rfl ?_) | (refine is_assign ?_; (first | refine al_v (opx_assign (.raw _)) ⟨rfl, trivial⟩ trivial rfl ?_ | refine al_v (opx_assign (.own _)) ⟨rfl, trivial⟩ trivial rfl ?_)) | (refine is_pick ?_; refine al_v (opx_pick_t (.raw _) (by assumption)) ⟨rfl, rfl, trivial⟩ trivial rfl ?_) | (refine is_bi ?_; refine al_v opx_len_own ⟨rfl, trivial⟩ ⟨rfl, trivial⟩ rfl ?_) | (refine is_ia ?_; refine al_v (opx_ia_own2 hjl (by omega)) ⟨rfl, rfl, trivial⟩ ⟨rfl, trivial⟩ rfl ?_) | (refine is_call ?_; (first | (refine al_rdv 0 rfl rfl (by (repeat (first | exact .nil | refine .one rfl rfl ?_ | refine .tag rfl ?_ | refine .froz rfl rfl ?_ | refine .rnil rfl ?_ | refine .agg rfl (by (repeat (first | exact .nil | refine .cons (.same rfl) ?_ | refine .cons (.froz rfl) ?_ | refine .cons (.rnil) ?_)); (first | done | fail)) ?_)); (first | done | fail)) rfl (hc5) ?_; rintro r q1 ⟨rfl, rfl⟩) | (refine al_rdv 0 rfl rfl (by (repeat (first | exact .nil | refine .one rfl rfl ?_ | refine .tag rfl ?_ | refine .froz rfl rfl ?_ | refine .rnil rfl ?_ | refine .agg rfl (by (repeat (first | exact .nil | refine .cons (.same rfl) ?_ | refine .cons (.froz rfl) ?_ | refine .cons (.rnil) ?_)); (first | done | fail)) ?_)); (first | done | fail)) rfl (hcl) ?_; rintro r q1 ⟨rfl, rfl⟩) | (refine al_rdg 0 rfl rfl (by (repeat (first | exact .nil | refine .one rfl rfl ?_ | refine .tag rfl ?_ | refine .froz rfl rfl ?_ | refine .rnil rfl ?_ | refine .agg rfl (by (repeat (first | exact .nil | refine .cons (.same rfl) ?_ | refine .cons (.froz rfl) ?_ | refine .cons (.rnil) ?_)); (first | done | fail)) ?_)); (first | done | fail)) rfl (c_mutate _ _ _ hbs (by omega) (by omega)) ?_; rintro s q2 ⟨hs1, hs2, hs3⟩))) | (refine is_st ?_; refine al_stS rfl rfl rfl (by assumption) ?_) | refine al_nil ?_)) | (refine is_aw ?_; (first | refine aw_seq ?_ | refine aw_region ?_ | refine aw_ret ?_ | refine aw_exit ?_ | (refine is_cond ?_; (first | refine aw_cond_f rfl rfl ?_ | refine aw_cond_t rfl (by assumption) ?_)))))
      exact ret_row trivial rfl rfl ⟨_, rfl, rfl, by rw [List.length_set]; omega, set_all h60 (by omega)⟩
    · have d5 : decide (pkV bs q 5 = 0) = false := decide_eq_false h5
      repeat' (first | (refine is_al ?_; (first | (refine is_gd ?_; refine al_on rfl rfl rfl (by assumption) ?_) | (refine is_move ?_; (first | refine al_v (opx_move (.raw _)) ⟨rfl, trivial⟩ trivial rfl ?_ | refine al_v (opx_move (.own _)) ⟨rfl, trivial⟩ trivial rfl ?_ | refine al_v (opx_move (.ref _ _)) ⟨rfl, trivial⟩ trivial rfl ?_)) | (refine is_bin ?_; (first | refine al_v opx_eql ⟨rfl, rfl, trivial⟩ trivial rfl ?_ | refine al_v opx_gtr ⟨rfl, rfl, trivial⟩ trivial rfl ?_)) | (refine is_assign ?_; refine al_v (opx_assign (.own _)) ⟨rfl, trivial⟩ trivial rfl ?_) | (refine is_pick ?_; refine al_v (opx_pick_t (.raw _) (by assumption)) ⟨rfl, rfl, trivial⟩ trivial rfl ?_) | (refine is_bi ?_; refine al_v opx_len_own ⟨rfl, trivial⟩ ⟨rfl, trivial⟩ rfl ?_) | (refine is_call ?_; (refine al_rdv 0 rfl rfl (by (repeat (first | exact .nil | refine .one rfl rfl ?_ | refine .tag rfl ?_ | refine .froz rfl rfl ?_ | refine .rnil rfl ?_ | refine .agg rfl (by (repeat (first | exact .nil | refine .cons (.same rfl) ?_ | refine .cons (.froz rfl) ?_ | refine .cons (.rnil) ?_)); (first | done | fail)) ?_)); (first | done | fail)) rfl (hc5) ?_; rintro r q1 ⟨rfl, rfl⟩)) | refine al_nil ?_)) | (refine is_aw ?_; (first | refine aw_seq ?_ | refine aw_region ?_ | refine aw_skip ?_ | refine aw_ret ?_ | refine aw_exit ?_ | (refine is_cond ?_; (first | refine aw_cond_f rfl rfl ?_ | refine aw_cond_f rfl (by assumption) ?_)))))
      exact ret_row trivial rfl rfl ⟨ls, rfl, rfl, by omega, h60⟩
  · obtain ⟨k, rfl⟩ : ∃ j, k = j + 1 := ⟨k - 1, by omega⟩
    have hc1 : decide ((0 : Int) < ((k + 1 : Nat) : Int)) = true := decide_eq_true (by omega)
    have he : ((k + 1 : Nat) : Int) - 1 = (k : Int) := by omega
    repeat' (first | (refine is_al ?_; (first | (refine is_move ?_; (first | refine al_v (opx_move (.raw _)) ⟨rfl, trivial⟩ trivial rfl ?_ | refine al_v (opx_move (.own _)) ⟨rfl, trivial⟩ trivial rfl ?_ | refine al_v (opx_move (.ref _ _)) ⟨rfl, trivial⟩ trivial rfl ?_)) | (refine is_bin ?_; (first | refine al_v opx_eql ⟨rfl, rfl, trivial⟩ trivial rfl ?_ | refine al_v opx_gtr ⟨rfl, rfl, trivial⟩ trivial rfl ?_ | refine al_v (opx_sub (by unfold InR; omega)) ⟨rfl, rfl, trivial⟩ trivial rfl ?_)) | (refine is_assign ?_; (first | refine al_v (opx_assign (.raw _)) ⟨rfl, trivial⟩ trivial rfl ?_ | refine al_v (opx_assign (.own _)) ⟨rfl, trivial⟩ trivial rfl ?_)) | (refine is_call ?_; (first | (refine al_rdg 0 rfl rfl (by (repeat (first | exact .nil | refine .one rfl rfl ?_ | refine .tag rfl ?_ | refine .froz rfl rfl ?_ | refine .rnil rfl ?_ | refine .agg rfl (by (repeat (first | exact .nil | refine .cons (.same rfl) ?_ | refine .cons (.froz rfl) ?_ | refine .cons (.rnil) ?_)); (first | done | fail)) ?_)); (first | done | fail)) rfl (c_of _ _ _ hbs (by omega) (by simp)) ?_; rintro s q2 ⟨rfl, hs⟩; have hsl := len15 hs (by decide)) | (refine al_rdv 0 rfl rfl (by (repeat (first | exact .nil | refine .one rfl rfl ?_ | refine .tag rfl ?_ | refine .froz rfl rfl ?_ | refine .rnil rfl ?_ | refine .agg rfl (by (repeat (first | exact .nil | refine .cons (.same rfl) ?_ | refine .cons (.froz rfl) ?_ | refine .cons (.rnil) ?_)); (first | done | fail)) ?_)); (first | done | fail)) rfl (c_pick _ _ _ hbs (by omega) (by omega)) ?_; rintro r q3 ⟨rfl, ha1, ha2, ha3⟩; have hi := itoa_len5 (n := r) (by omega)) | (refine al_rdv 0 rfl rfl (by (repeat (first | exact .nil | refine .one rfl rfl ?_ | refine .tag rfl ?_ | refine .froz rfl rfl ?_ | refine .rnil rfl ?_ | refine .agg rfl (by (repeat (first | exact .nil | refine .cons (.same rfl) ?_ | refine .cons (.froz rfl) ?_ | refine .cons (.rnil) ?_)); (first | done | fail)) ?_)); (first | done | fail)) rfl (c_someValue _ _ hbs (by omega)) ?_; rintro v q4 ⟨hv1, hv2, hv3, hv4⟩; have hj := itoa_len5 (n := v) (by omega)) | refine al_callv2 (by (repeat (first | exact .nil | refine .one rfl rfl ?_ | refine .froz rfl rfl ?_ | refine .row rfl rfl ?_ | refine .rnil rfl ?_ | refine .agg rfl (by (repeat (first | exact .nil | refine .cons (.same rfl) ?_ | refine .cons (.froz rfl) ?_ | refine .cons (.rnil) ?_ | refine .cons (.row rfl rfl) ?_)); (first | done | fail)) ?_)); (first | done | fail)) rfl (c_decimal _ (by omega)) rfl ?_)) | (refine is_bs ?_; refine al_pushS ⟨rfl, trivial⟩ rfl rfl rfl rfl rfl (by omega) ?_) | refine al_nil ?_ | refine al_litS lb4 (by (repeat (first | exact .nil _ | refine .cons rfl ?_)); (first | done | fail)) rfl rfl rfl ?_ | refine al_litS ln8 (by (repeat (first | exact .nil _ | refine .cons rfl ?_)); (first | done | fail)) rfl rfl rfl ?_ | refine al_v (opx_cat (by simp only [List.length_append, List.length_cons, List.length_nil]; omega)) ⟨rfl, rfl, trivial⟩ trivial rfl ?_)) | (refine is_ad ?_; (first | refine al_litS lb4 (by (repeat (first | exact .nil _ | refine .cons rfl ?_)); (first | done | fail)) rfl rfl rfl ?_ | refine al_litS ln8 (by (repeat (first | exact .nil _ | refine .cons rfl ?_)); (first | done | fail)) rfl rfl rfl ?_ | refine al_v (opx_cat (by simp only [List.length_append, List.length_cons, List.length_nil]; omega)) ⟨rfl, rfl, trivial⟩ trivial rfl ?_)) | (refine is_aw ?_; (first | refine aw_seq ?_ | refine aw_region ?_ | refine aw_skip ?_ | refine aw_block ?_ | (refine is_cond ?_; (first | refine aw_cond_t rfl (by assumption) ?_ | (refine aw_cond rfl ?_ ?_ <;> ((intro hgd; try exact absurd hgd (by decide)); (try (have hz := hgd; simp only [decide_eq_true_eq, decide_eq_false_iff_not, Bool.not_eq_true', Bool.not_eq_false', Bool.not_true, Bool.not_false, beq_iff_eq, Int.not_le, Int.not_lt] at hz)); (try (exfalso; omega)))))))) | refine thn_n ?_)
    · exact ⟨(ls ++ [[97, 116, 32] ++ s ++ [32] ++ Lib.itoa r], k, q + 1 + 1 + 1), ⟨(by first | omega | (dsimp only; omega) | (simp only [List.length_append, List.length_cons, List.length_nil]; omega) | (simp; omega)), (by first | omega | (dsimp only; omega) | (simp only [List.length_append, List.length_cons, List.length_nil]; omega) | (simp; omega)), (by first | omega | (dsimp only; omega) | (simp only [List.length_append, List.length_cons, List.length_nil]; omega) | (simp; omega)), all_snoc h4 (by first | omega | (simp only [List.length_append, List.length_cons, List.length_nil]; omega))⟩, Nat.lt_succ_self k, le_mk [0, _] rfl rfl rfl rfl ⟨rfl, rfl, by rw [← he]; rfl, trivial⟩ ⟨rfl, rfl, trivial⟩⟩
    · exact ⟨(ls ++ [s], k, q + 1 + 1 + 1), ⟨(by first | omega | (dsimp only; omega) | (simp only [List.length_append, List.length_cons, List.length_nil]; omega) | (simp; omega)), (by first | omega | (dsimp only; omega) | (simp only [List.length_append, List.length_cons, List.length_nil]; omega) | (simp; omega)), (by first | omega | (dsimp only; omega) | (simp only [List.length_append, List.length_cons, List.length_nil]; omega) | (simp; omega)), all_snoc h4 (by first | omega | (simp only [List.length_append, List.length_cons, List.length_nil]; omega))⟩, Nat.lt_succ_self k, le_mk [0, _] rfl rfl rfl rfl ⟨rfl, rfl, by rw [← he]; rfl, trivial⟩ ⟨rfl, rfl, trivial⟩⟩
    · exact ⟨(ls ++ [[112, 117, 116, 32] ++ s ++ [32] ++ Lib.itoa v ++ [32] ++ Lib.itoa r], k, q4 + 1), ⟨(by first | omega | (dsimp only; omega) | (simp only [List.length_append, List.length_cons, List.length_nil]; omega) | (simp; omega)), (by first | omega | (dsimp only; omega) | (simp only [List.length_append, List.length_cons, List.length_nil]; omega) | (simp; omega)), (by first | omega | (dsimp only; omega) | (simp only [List.length_append, List.length_cons, List.length_nil]; omega) | (simp; omega)), all_snoc h4 (by first | omega | (simp only [List.length_append, List.length_cons, List.length_nil]; omega))⟩, Nat.lt_succ_self k, le_mk [0, _] rfl rfl rfl rfl ⟨rfl, rfl, by rw [← he]; rfl, trivial⟩ ⟨rfl, rfl, trivial⟩⟩
theorem c_drawRunSession (bs : List UInt8) (hb : bs.length ≤ 1048576) : Con Tryz.prog 8 [slB bs] [] (fun rs all => ∃ ls : List Str, rs = [slS ls] ∧ all = [] ∧ noTags rs = true ∧ ls.length ≤ 16 ∧ ∀ l ∈ ls, l.length ≤ 60) :=
  (c_drawRunSession0 bs hb).froz fun rs all ⟨ls, h1, h2, h3⟩ => by
    subst h1 h2
    exact ⟨⟨ls, rfl, rfl, rfl, h3⟩, rfl⟩
end Go.Proofs.YtfoecgfboicphaaGreatDoor
/-
  Sessions: the plain laws of the statements on puts, series, questions, beginnings.
-/
namespace Go.Proofs.YtfoecgfboicphaaGreatDoor
open Go
set_option linter.unusedVariables false
set_option linter.unusedSimpArgs false

theorem dec_b {u a : Nat} {l : Str} (h : ¬ u < 10) (ha : u / 10 = a) (hl : Lib.decDigits a = l) : Lib.decDigits u = l ++ [UInt8.ofNat (48 + u % 10)] := by rw [dec_big h, ha, hl]
theorem it_n {u : Nat} {l : Str} (h : Lib.decDigits u = l) : Lib.itoa (u : Int) = l := itoa_pos.trans h
theorem it0 : Lib.itoa 0 = [48] := it_n (u := 0) (dec_small (by decide))
theorem it1 : Lib.itoa 1 = [49] := it_n (u := 1) (dec_small (by decide))
theorem it2 : Lib.itoa 2 = [50] := it_n (u := 2) (dec_small (by decide))
theorem it3 : Lib.itoa 3 = [51] := it_n (u := 3) (dec_small (by decide))
theorem it4 : Lib.itoa 4 = [52] := it_n (u := 4) (dec_small (by decide))
theorem it5 : Lib.itoa 5 = [53] := it_n (u := 5) (dec_small (by decide))
theorem it6 : Lib.itoa 6 = [54] := it_n (u := 6) (dec_small (by decide))
theorem it7 : Lib.itoa 7 = [55] := it_n (u := 7) (dec_small (by decide))
theorem it9 : Lib.itoa 9 = [57] := it_n (u := 9) (dec_small (by decide))
theorem it10 : Lib.itoa 10 = [49, 48] := it_n (u := 10) (dec_b (by decide) rfl (dec_small (by decide)))
theorem it13 : Lib.itoa 13 = [49, 51] := it_n (u := 13) (dec_b (by decide) rfl (dec_small (by decide)))
theorem it19 : Lib.itoa 19 = [49, 57] := it_n (u := 19) (dec_b (by decide) rfl (dec_small (by decide)))
theorem it20 : Lib.itoa 20 = [50, 48] := it_n (u := 20) (dec_b (by decide) rfl (dec_small (by decide)))
theorem it21 : Lib.itoa 21 = [50, 49] := it_n (u := 21) (dec_b (by decide) rfl (dec_small (by decide)))
theorem it1000 : Lib.itoa 1000 = [49, 48, 48, 48] := it_n (u := 1000) (dec_b (by decide) rfl (dec_b (by decide) rfl (dec_b (by decide) rfl (dec_small (by decide)))))
theorem it1001 : Lib.itoa 1001 = [49, 48, 48, 49] := it_n (u := 1001) (dec_b (by decide) rfl (dec_b (by decide) rfl (dec_b (by decide) rfl (dec_small (by decide)))))
theorem VL_one {x : Lb} (h1 : vw x.1) (h2 : vw x.2) : VL [x] := ⟨by simp, fun k y hy => by
  match k, hy with
  | 0, hy => cases hy; exact ⟨h1, h2, fun z hz => by omega⟩⟩
theorem VL_non : VL [] := IsT_nil.1
abbrev lX : List Lb := [([97], [120])]
abbrev lY : List Lb := [([97], [121])]
abbrev lC : List Lb := [([98], [99])]
theorem VX : VL lX := VL_one (by decide) (by decide)
theorem VY : VL lY := VL_one (by decide) (by decide)
theorem VC : VL lC := VL_one (by decide) (by decide)
theorem putL {s : Ss} {r : Str} {l : List Lb} {t v : Int} {n : Nat} {q : List Pt} (h : okSs s) (hV : VL l) (hp : okPt (t, v)) (hr : r = lnT l t v) (hn : plC s.1 l = n) (h8 : n < s.1.length ∨ s.1.length < 8) (hq : s.2.getD n [] = q) (hl : (put q (t, v)).length ≤ 16) :
    putOk s r = true ∧ putS s r = (if n < s.1.length then s.1 else s.1 ++ [l], setAt s.2 n (put q (t, v))) := by
  subst hr hn hq
  unfold okPt at hp
  have hb : lnB l t v = true := by rw [lnB, vlB_t hV, decide_eq_true hp]; rfl
  obtain ⟨g1, g2⟩ := pl_ln hb
  have hq : VS (s.2.getD (plC s.1 l) []) := by
    rw [List.getD_eq_getElem?_getD]
    cases hq : s.2[plC s.1 l]? with
    | none => exact VS_nil
    | some q => exact h.ser q (List.mem_of_getElem? hq)
  obtain ⟨g3, g4⟩ := putB_to hq hp hl
  have ha : adOk s.1 l = true := by
    rw [adOk, vctB_t h.cat, vlB_t hV]
    rcases h8 with h8 | h8
    · rw [decide_eq_true h8]; rfl
    · rw [decide_eq_true h8, Bool.or_true]; rfl
  have ho : putOk s (lnT l t v) = true := by
    rw [putOk, g1, g2]
    show (true && (adOk s.1 l && putB (s.2.getD (plC s.1 l) []) t v)) = true
    rw [ha, g3]; rfl
  refine ⟨ho, ?_⟩
  rw [putS, if_pos ho, g2]
  show (adR s.1 l, setAt s.2 (plC s.1 l) (putR (s.2.getD (plC s.1 l) []) t v)) = _
  rw [g4, adR, if_pos ha]
theorem fnd_t {s : Ss} {w : Str} {l : List Lb} (h : IsT w l) (hi : plC s.1 l < s.1.length) : fndB s w = true ∧ fndP s w = s.2.getD (plC s.1 l) [] := by
  obtain ⟨h1, h2⟩ := prs_t h
  have hb : fndB s w = true := by rw [fndB, h1, h2, decide_eq_true hi]; rfl
  exact ⟨hb, by rw [fndP, if_pos hb, h2]⟩
theorem at_t {s : Ss} {a b : Str} {l : List Lb} {t v : Int} {ps : List Pt} (h : IsT a l) (hi : plC s.1 l < s.1.length) (hps : s.2.getD (plC s.1 l) [] = ps) (hV : VS ps) (h1 : b.length ≤ 5) (h2 : Lib.itoa t = b) (hv : vat ps t = some v) : atA s a b = Lib.itoa v := by
  obtain ⟨f1, f2⟩ := fnd_t h hi
  obtain ⟨n1, n2⟩ := num_t h1 h2
  rw [hps] at f2
  have e1 : vatB ps t = true := by rw [vatB, vsB_iff.2 hV, hv]; rfl
  have e2 : vatI ps t = v := by rw [vatI, if_pos hV, hv]; rfl
  rw [atA, atB, f1, n1, f2, n2, e1, e2]; rfl
theorem at_n {s : Ss} {a b : Str} {l : List Lb} {t : Int} {ps : List Pt} (h : IsT a l) (hi : plC s.1 l < s.1.length) (hps : s.2.getD (plC s.1 l) [] = ps) (h1 : b.length ≤ 5) (h2 : Lib.itoa t = b) (hv : vat ps t = none) : atA s a b = tNo := by
  obtain ⟨f1, f2⟩ := fnd_t h hi
  obtain ⟨n1, n2⟩ := num_t h1 h2
  rw [hps] at f2
  have e1 : vatB ps t = false := by rw [vatB, hv]; simp
  rw [atA, atB, f1, n1, f2, n2, e1]; rfl
theorem at_0 {s : Ss} {a b : Str} {l : List Lb} (h : IsT a l) (hi : ¬ plC s.1 l < s.1.length) : atA s a b = tNo := by
  obtain ⟨h1, h2⟩ := prs_t h
  have hb : fndB s a = false := by rw [fndB, h1, h2, decide_eq_false hi]; rfl
  rw [atA, atB, hb]; rfl
theorem sum_t {s : Ss} {a b c : Str} {l : List Lb} {lo hi : Int} {ps : List Pt} (h : IsT a l) (hi1 : plC s.1 l < s.1.length) (hps : s.2.getD (plC s.1 l) [] = ps) (hV : VS ps) (h1 : b.length ≤ 5) (h2 : Lib.itoa lo = b) (h3 : c.length ≤ 5) (h4 : Lib.itoa hi = c) (h5 : irB lo = true) (h6 : irB hi = true) : sumA s a b c = Lib.itoa (sumV (rng ps lo hi)) := by
  obtain ⟨f1, f2⟩ := fnd_t h hi1
  obtain ⟨n1, n2⟩ := num_t h1 h2
  obtain ⟨n3, n4⟩ := num_t h3 h4
  rw [hps] at f2
  have e1 : rngR ps lo hi = rng ps lo hi := by rw [rngR, vrB, vsB_iff.2 hV, h5, h6]; rfl
  rw [sumA, sumB, f1, n1, n3, f2, n2, n4, h5, h6, e1]; rfl
end Go.Proofs.YtfoecgfboicphaaGreatDoor
/-
  Sessions: what the two written-out sessions print; questions; beginnings.
-/
namespace Go.Proofs.YtfoecgfboicphaaGreatDoor
open Go
set_option linter.unusedVariables false
set_option linter.unusedSimpArgs false

theorem runA_cons {s s' : Ss} {l a : Str} {ls : List Str} {r : Str} (h1 : lnA s l = a) (h2 : lnS s l = s') (h3 : runA s' ls = r) : runA s (l :: ls) = a ++ 10 :: r := by
  rw [runA, h1, h2, h3]
theorem ln_put {s s' : Ss} {ln r : Str} (h1 : cutN ln = tPut) (h2 : cutB ln = true) (h3 : cutR ln = r) (h : putOk s r = true ∧ putS s r = s') : lnA s ln = tOk ∧ lnS s ln = s' := by
  rw [lnA, lnS, h1, h2, h3]
  refine ⟨?_, ?_⟩
  · show putT s r true = tOk
    rw [putT, if_pos rfl, if_pos h.1]
  · rw [comS, if_pos ⟨rfl, rfl⟩, h.2]
theorem ln_putF {s : Ss} {ln r : Str} (h1 : cutN ln = tPut) (h2 : cutB ln = true) (h3 : cutR ln = r) (h : plB r = false) : lnA s ln = tNo ∧ lnS s ln = s := by
  have ho : putOk s r = false := by rw [putOk, h]; rfl
  rw [lnA, lnS, h1, h2, h3]
  refine ⟨?_, ?_⟩
  · show putT s r true = tNo
    rw [putT, if_pos rfl, ho]; rfl
  · rw [comS, if_pos ⟨rfl, rfl⟩, putS, ho]; rfl
theorem ln_st {s : Ss} {ln n : Str} (h1 : cutN ln = n) (h0 : n ≠ tPut) : lnS s ln = s := by
  rw [lnS, h1, comS, if_neg fun h => h0 h.1]
theorem ln_at {s : Ss} {ln r a b : Str} (h1 : cutN ln = tAt) (h2 : cutB ln = true) (h3 : cutR ln = r) (h4 : spl 32 r = [a, b]) : lnA s ln = atA s a b ∧ lnS s ln = s := by
  refine ⟨?_, ln_st h1 (by decide)⟩
  rw [lnA, h1, h2, h3]
  show atT s r true = _
  exact at_two h4
theorem ln_sum {s : Ss} {ln r a b c : Str} (h1 : cutN ln = tSum) (h2 : cutB ln = true) (h3 : cutR ln = r) (h4 : spl 32 r = [a, b, c]) : lnA s ln = sumA s a b c ∧ lnS s ln = s := by
  refine ⟨?_, ln_st h1 (by decide)⟩
  rw [lnA, h1, h2, h3]
  show sumT s r true = _
  exact sum_three h4
theorem ln_count {s : Ss} : lnA s tCount = cnA s ∧ lnS s tCount = s := ⟨rfl, rfl⟩
theorem ok_put {s s' : Ss} {r : Str} (h : okSs s) (hp : putOk s r = true ∧ putS s r = s') : okSs s' := by
  rw [← hp.2]; exact putS_ok h putVS
theorem VSmem {s : Ss} (h : okSs s) {q : List Pt} (hq : q ∈ s.2) : VS q := h.ser q hq
abbrev sA : List Str := [[112, 117, 116, 32, 123, 97, 61, 120, 125, 32, 53, 32, 49, 48], [112, 117, 116, 32, 123, 97, 61, 120, 125, 32, 55, 32, 50, 48], [112, 117, 116, 32, 123, 97, 61, 120, 125, 32, 54, 32, 49, 48], [97, 116, 32, 123, 97, 61, 120, 125, 32, 49, 48], [97, 116, 32, 123, 97, 61, 120, 125, 32, 49, 57], [97, 116, 32, 123, 97, 61, 120, 125, 32, 57], [97, 116, 32, 123, 97, 61, 121, 125, 32, 57], [115, 117, 109, 32, 123, 97, 61, 120, 125, 32, 48, 32, 50, 48], [115, 117, 109, 32, 123, 97, 61, 120, 125, 32, 48, 32, 50, 49], [99, 111, 117, 110, 116]]
abbrev sAo : Str := [111, 107, 10, 111, 107, 10, 111, 107, 10, 54, 10, 54, 10, 110, 111, 10, 110, 111, 10, 54, 10, 49, 51, 10, 49, 32, 50, 10]
abbrev a1 : Ss := ([lX], [[(10, 5)]])
abbrev a2 : Ss := ([lX], [[(10, 5), (20, 7)]])
abbrev a3 : Ss := ([lX], [[(10, 6), (20, 7)]])
theorem rX (v t : Int) {a b : Str} (ha : Lib.itoa v = a) (hb : Lib.itoa t = b) : lnT lX t v = [123, 97, 61, 120, 125, 32] ++ a ++ [32] ++ b := by rw [lnT, ha, hb]; rfl
theorem TX : IsT [123, 97, 61, 120, 125] lX := ⟨VX, rfl⟩
theorem TY : IsT [123, 97, 61, 121, 125] lY := ⟨VY, rfl⟩
theorem run_P1 : runA ([], []) sA = sAo := by
  have p1 : putOk ([], []) [123, 97, 61, 120, 125, 32, 53, 32, 49, 48] = true ∧ putS ([], []) [123, 97, 61, 120, 125, 32, 53, 32, 49, 48] = a1 :=
    putL okSs_nil VX (by unfold okPt; decide) (rX 5 10 it5 it10).symm (n := 0) rfl (.inr (by decide)) (q := []) rfl (by decide)
  have k1 := ok_put okSs_nil p1
  have p2 : putOk a1 [123, 97, 61, 120, 125, 32, 55, 32, 50, 48] = true ∧ putS a1 [123, 97, 61, 120, 125, 32, 55, 32, 50, 48] = a2 :=
    putL k1 VX (by unfold okPt; decide) (rX 7 20 it7 it20).symm (n := 0) (by decide) (.inl (by decide)) (q := [(10, 5)]) rfl (by decide)
  have k2 := ok_put k1 p2
  have p3 : putOk a2 [123, 97, 61, 120, 125, 32, 54, 32, 49, 48] = true ∧ putS a2 [123, 97, 61, 120, 125, 32, 54, 32, 49, 48] = a3 :=
    putL k2 VX (by unfold okPt; decide) (rX 6 10 it6 it10).symm (n := 0) (by decide) (.inl (by decide)) (q := [(10, 5), (20, 7)]) rfl (by decide)
  have k3 := ok_put k2 p3
  have hV : VS [(10, 6), (20, 7)] := VSmem k3 (.head _)
  have hi : plC a3.1 lX < a3.1.length := by decide
  have hj : ¬ plC a3.1 lY < a3.1.length := by decide
  have hq : a3.2.getD (plC a3.1 lX) [] = [(10, 6), (20, 7)] := by decide
  obtain ⟨A1, S1⟩ := ln_put (ln := sA[0]) (by decide) (by decide) (by decide) p1
  obtain ⟨A2, S2⟩ := ln_put (ln := sA[1]) (by decide) (by decide) (by decide) p2
  obtain ⟨A3, S3⟩ := ln_put (ln := sA[2]) (by decide) (by decide) (by decide) p3
  obtain ⟨A4, S4⟩ := ln_at (s := a3) (ln := sA[3]) (r := [123, 97, 61, 120, 125, 32, 49, 48]) (a := [123, 97, 61, 120, 125]) (b := [49, 48]) (by decide) (by decide) (by decide) (by decide)
  obtain ⟨A5, S5⟩ := ln_at (s := a3) (ln := sA[4]) (r := [123, 97, 61, 120, 125, 32, 49, 57]) (a := [123, 97, 61, 120, 125]) (b := [49, 57]) (by decide) (by decide) (by decide) (by decide)
  obtain ⟨A6, S6⟩ := ln_at (s := a3) (ln := sA[5]) (r := [123, 97, 61, 120, 125, 32, 57]) (a := [123, 97, 61, 120, 125]) (b := [57]) (by decide) (by decide) (by decide) (by decide)
  obtain ⟨A7, S7⟩ := ln_at (s := a3) (ln := sA[6]) (r := [123, 97, 61, 121, 125, 32, 57]) (a := [123, 97, 61, 121, 125]) (b := [57]) (by decide) (by decide) (by decide) (by decide)
  obtain ⟨A8, S8⟩ := ln_sum (s := a3) (ln := sA[7]) (r := [123, 97, 61, 120, 125, 32, 48, 32, 50, 48]) (a := [123, 97, 61, 120, 125]) (b := [48]) (c := [50, 48]) (by decide) (by decide) (by decide) (by decide)
  obtain ⟨A9, S9⟩ := ln_sum (s := a3) (ln := sA[8]) (r := [123, 97, 61, 120, 125, 32, 48, 32, 50, 49]) (a := [123, 97, 61, 120, 125]) (b := [48]) (c := [50, 49]) (by decide) (by decide) (by decide) (by decide)
  rw [at_t TX hi hq hV (by decide) it10 (v := 6) (by decide), it6] at A4
  rw [at_t TX hi hq hV (by decide) it19 (v := 6) (by decide), it6] at A5
  rw [at_n TX hi hq (by decide) it9 (by decide)] at A6
  rw [at_0 TY hj] at A7
  rw [sum_t TX hi hq hV (by decide) it0 (by decide) it20 (by decide) (by decide), show sumV (rng [(10, 6), (20, 7)] 0 20) = 6 by decide, it6] at A8
  rw [sum_t TX hi hq hV (by decide) it0 (by decide) it21 (by decide) (by decide), show sumV (rng [(10, 6), (20, 7)] 0 21) = 13 by decide, it13] at A9
  have A10 : lnA a3 tCount = [49, 32, 50] := by
    rw [ln_count.1, cnA]
    show Lib.itoa 1 ++ [32] ++ Lib.itoa 2 = _
    rw [it1, it2]; rfl
  exact (runA_cons A1 S1 (runA_cons A2 S2 (runA_cons A3 S3 (runA_cons A4 S4 (runA_cons A5 S5 (runA_cons A6 S6 (runA_cons A7 S7 (runA_cons A8 S8 (runA_cons A9 S9 (runA_cons A10 rfl rfl)))))))))).trans rfl
abbrev sB : List Str := [[99, 111, 117, 110, 116], [112, 117, 116, 32, 123, 125, 32, 49, 32, 49], [112, 117, 116, 32, 123, 98, 61, 99, 125, 32, 50, 32, 49], [112, 117, 116, 32, 123, 98, 61, 99, 125, 32, 51, 32, 49], [112, 117, 116, 32, 123, 98, 61, 99, 125, 32, 52, 32, 49, 48, 48, 49], [112, 117, 116, 32, 123, 98, 125, 32, 52, 32, 49], [99, 111, 117, 110, 116], [115, 117, 109, 32, 123, 98, 61, 99, 125, 32, 48, 32, 53], [115, 117, 109, 32, 123, 98, 61, 99, 125, 32, 53, 32, 48], [97, 116, 32, 123, 125, 32, 49, 48, 48, 48]]
abbrev sBo : Str := [48, 32, 48, 10, 111, 107, 10, 111, 107, 10, 111, 107, 10, 110, 111, 10, 110, 111, 10, 50, 32, 50, 10, 51, 10, 48, 10, 49, 10]
abbrev b1 : Ss := ([[]], [[(1, 1)]])
abbrev b2 : Ss := ([[], lC], [[(1, 1)], [(1, 2)]])
abbrev b3 : Ss := ([[], lC], [[(1, 1)], [(1, 3)]])
theorem rN (v t : Int) {a b : Str} (ha : Lib.itoa v = a) (hb : Lib.itoa t = b) : lnT [] t v = [123, 125, 32] ++ a ++ [32] ++ b := by rw [lnT, ha, hb]; rfl
theorem rC (v t : Int) {a b : Str} (ha : Lib.itoa v = a) (hb : Lib.itoa t = b) : lnT lC t v = [123, 98, 61, 99, 125, 32] ++ a ++ [32] ++ b := by rw [lnT, ha, hb]; rfl
theorem TN : IsT [123, 125] [] := IsT_nil
theorem TC : IsT [123, 98, 61, 99, 125] lC := ⟨VC, rfl⟩
theorem no_b : prsB [123, 98, 125] = false := by
  refine (prs_f fun l hl => ?_).1
  have h1 := hl.2
  match l, h1 with
  | [], h1 => revert h1; decide
  | x :: r, h1 =>
    have : (61 : UInt8) ∈ txt (x :: r) := by
      cases r with
      | nil => simp [txt, jn, eqt]
      | cons y r => simp [txt, jn, eqt]
    rw [h1] at this
    revert this; decide
theorem pl_b : plB [123, 98, 125, 32, 52, 32, 49] = false := (pl_f (a := [123, 98, 125]) (b := [52]) (c := [49]) (by decide) (by rw [plW, no_b]; rfl)).1
theorem pl_1001 : plB [123, 98, 61, 99, 125, 32, 52, 32, 49, 48, 48, 49] = false := by
  obtain ⟨n1, n2⟩ := num_t (w := [52]) (n := 4) (by decide) it4
  obtain ⟨n3, n4⟩ := num_t (w := [49, 48, 48, 49]) (n := 1001) (by decide) it1001
  exact (pl_f (a := [123, 98, 61, 99, 125]) (b := [52]) (c := [49, 48, 48, 49]) (by decide) (by rw [plW, (prs_t TC).1, n1, n2, n3, n4]; rfl)).1
theorem run_P2 : runA ([], []) sB = sBo := by
  have p1 : putOk ([], []) [123, 125, 32, 49, 32, 49] = true ∧ putS ([], []) [123, 125, 32, 49, 32, 49] = b1 :=
    putL okSs_nil VL_non (by unfold okPt; decide) (rN 1 1 it1 it1).symm (n := 0) rfl (.inr (by decide)) (q := []) rfl (by decide)
  have k1 := ok_put okSs_nil p1
  have p2 : putOk b1 [123, 98, 61, 99, 125, 32, 50, 32, 49] = true ∧ putS b1 [123, 98, 61, 99, 125, 32, 50, 32, 49] = b2 :=
    putL k1 VC (by unfold okPt; decide) (rC 2 1 it2 it1).symm (n := 1) (by decide) (.inr (by decide)) (q := []) rfl (by decide)
  have k2 := ok_put k1 p2
  have p3 : putOk b2 [123, 98, 61, 99, 125, 32, 51, 32, 49] = true ∧ putS b2 [123, 98, 61, 99, 125, 32, 51, 32, 49] = b3 :=
    putL k2 VC (by unfold okPt; decide) (rC 3 1 it3 it1).symm (n := 1) (by decide) (.inl (by decide)) (q := [(1, 2)]) rfl (by decide)
  have k3 := ok_put k2 p3
  have hV : VS [(1, 3)] := VSmem k3 (.tail _ (.head _))
  have hV0 : VS [(1, 1)] := VSmem k3 (.head _)
  have hi : plC b3.1 lC < b3.1.length := by decide
  have hi0 : plC b3.1 [] < b3.1.length := by decide
  have hq : b3.2.getD (plC b3.1 lC) [] = [(1, 3)] := by decide
  have hq0 : b3.2.getD (plC b3.1 []) [] = [(1, 1)] := by decide
  have A0 : lnA ([], []) tCount = [48, 32, 48] := by
    rw [ln_count.1, cnA]
    show Lib.itoa 0 ++ [32] ++ Lib.itoa 0 = _
    rw [it0]; rfl
  obtain ⟨A1, S1⟩ := ln_put (ln := sB[1]) (by decide) (by decide) (by decide) p1
  obtain ⟨A2, S2⟩ := ln_put (ln := sB[2]) (by decide) (by decide) (by decide) p2
  obtain ⟨A3, S3⟩ := ln_put (ln := sB[3]) (by decide) (by decide) (by decide) p3
  obtain ⟨A4, S4⟩ := ln_putF (s := b3) (ln := sB[4]) (by decide) (by decide) (by decide) pl_1001
  obtain ⟨A5, S5⟩ := ln_putF (s := b3) (ln := sB[5]) (by decide) (by decide) (by decide) pl_b
  have A6 : lnA b3 tCount = [50, 32, 50] := by
    rw [ln_count.1, cnA]
    show Lib.itoa 2 ++ [32] ++ Lib.itoa 2 = _
    rw [it2]; rfl
  obtain ⟨A7, S7⟩ := ln_sum (s := b3) (ln := sB[7]) (r := [123, 98, 61, 99, 125, 32, 48, 32, 53]) (a := [123, 98, 61, 99, 125]) (b := [48]) (c := [53]) (by decide) (by decide) (by decide) (by decide)
  obtain ⟨A8, S8⟩ := ln_sum (s := b3) (ln := sB[8]) (r := [123, 98, 61, 99, 125, 32, 53, 32, 48]) (a := [123, 98, 61, 99, 125]) (b := [53]) (c := [48]) (by decide) (by decide) (by decide) (by decide)
  obtain ⟨A9, S9⟩ := ln_at (s := b3) (ln := sB[9]) (r := [123, 125, 32, 49, 48, 48, 48]) (a := [123, 125]) (b := [49, 48, 48, 48]) (by decide) (by decide) (by decide) (by decide)
  rw [sum_t TC hi hq hV (by decide) it0 (by decide) it5 (by decide) (by decide), show sumV (rng [(1, 3)] 0 5) = 3 by decide, it3] at A7
  rw [sum_t TC hi hq hV (by decide) it5 (by decide) it0 (by decide) (by decide), show sumV (rng [(1, 3)] 5 0) = 0 by decide, it0] at A8
  rw [at_t TN hi0 hq0 hV0 (by decide) it1000 (v := 1) (by decide), it1] at A9
  exact (runA_cons A0 rfl (runA_cons A1 S1 (runA_cons A2 S2 (runA_cons A3 S3 (runA_cons A4 S4 (runA_cons A5 S5 (runA_cons A6 rfl (runA_cons A7 S7 (runA_cons A8 S8 (runA_cons A9 S9 rfl)))))))))).trans rfl
abbrev Q4 : List Str := [[97, 116, 32, 123, 97, 61, 120, 125, 32, 53], [115, 117, 109, 32, 123, 125, 32, 48, 32, 57], [97, 116, 32, 123, 122, 122, 61, 113, 125, 32, 53], [99, 111, 117, 110, 116]]
theorem run_q {s : Ss} : ∃ e : Str, 0 < e.length ∧ runA s Q4 = e ++ runA s [tCount] := by
  have S1 : lnS s Q4[0] = s := ln_st (n := tAt) (by decide) (by decide)
  have S2 : lnS s Q4[1] = s := ln_st (n := tSum) (by decide) (by decide)
  have S3 : lnS s Q4[2] = s := ln_st (n := tAt) (by decide) (by decide)
  have h := runA_cons (ls := [Q4[1], Q4[2], tCount]) rfl S1 (runA_cons (ls := [Q4[2], tCount]) rfl S2 (runA_cons (ls := [tCount]) rfl S3 rfl))
  generalize lnA s Q4[0] = x at h
  generalize lnA s Q4[1] = y at h
  generalize lnA s Q4[2] = z at h
  generalize runA s [tCount] = w at h ⊢
  refine ⟨x ++ (10 : UInt8) :: (y ++ (10 : UInt8) :: (z ++ [(10 : UInt8)])), ?_, h.trans ?_⟩
  · rw [List.length_append, List.length_cons]; omega
  · simp
theorem run_pre {s : Ss} {ls : List Str} (n : Nat) : ∃ e : Str, runA s ls = runA s (ls.take n) ++ e :=
  ⟨runA (runS s (ls.take n)) (ls.drop n), by rw [← runA_app, List.take_append_drop]⟩
end Go.Proofs.YtfoecgfboicphaaGreatDoor
