/-
  Journals: the tools of the exact law on bytes.
-/
import Derived.Test.YtjhokokkablcpaaW17
import Derived.Test.YtjhokokkablcpaaEng27
namespace Go.Proofs.Ytjhokokkablcpaa
open Go.RowKit
set_option linter.unusedVariables false
set_option linter.unusedSimpArgs false
attribute [local irreducible] AL AW OpX Le AD

theorem byRs_rep2 {n : Nat} : List.replicate n ([Value.int .u8 0].map CV.raw) = byRs (List.replicate n 0) := by simp only [byRs, List.map_replicate]; rfl
theorem c_toByteS (b : List UInt8) (hL : b.length ≤ 2000000) : Con Try.prog 8 [slB b] [] (fun rs all => rs = [.one (.own 0)] ∧ all = [.row 1 5 (byRs b)]) := by
  have hlen := byRs_len (bs := b)
  refine con_of_aw (vars := [.tmp 2]) [(0, .r (slB b))] [] 0 Try.func8 (by kernel_rfl) rfl Try.ntmps8 rfl (by decide) rfl rfl rfl rfl rfl ?_
  intro B M w0 ρ0 Z0
  repeat' (first | (refine is_al ?_; (first | (refine is_move ?_; refine al_v (opx_move (.sl _ _)) ⟨rfl, trivial⟩ trivial rfl ?_) | (refine is_assign ?_; (first | refine al_v (opx_assign (.raw _)) ⟨rfl, trivial⟩ trivial rfl ?_ | refine al_v (opx_assign (.own _)) ⟨rfl, trivial⟩ trivial rfl ?_)) | (refine is_bi ?_; refine al_v opx_len_sl ⟨rfl, trivial⟩ trivial rfl ?_) | refine al_nil ?_ | refine al_mkn (rows := byRs (List.replicate b.length 0)) b.length byRs_rep2 (by omega) rfl rfl rfl rfl (by omega) ?_)) | (refine is_ad ?_; refine al_mkn (rows := byRs (List.replicate b.length 0)) b.length byRs_rep2 (by omega) rfl rfl rfl rfl (by omega) ?_) | (refine is_aw ?_; (first | refine aw_seq ?_ | refine aw_region ?_ | refine aw_block ?_)))
  refine aw_loop (γ := Nat) (fun k => [(0, .r (slB b)), (3, .own 0), (4, .i (k : Int))]) (fun k => [(0, .row 1 5 (byRs (b.take k ++ List.replicate (b.length - k) 0)))]) (fun _ => 1)
    (fun k => k ≤ b.length) (fun k => b.length - k) 0 (Nat.zero_le _) (le_mk [0] rfl rfl rfl rfl ⟨rfl, rfl, rfl, trivial⟩ ⟨rfl, trivial⟩) ?_
  intro k hk
  rcases Nat.lt_or_ge k b.length with hlt | hge
  · have hc : decide ((k : Int) < ((byRs b).length : Int)) = true := decide_eq_true (by omega)
    obtain ⟨p, hp⟩ : ∃ p, b[k]? = some p := ⟨_, List.getElem?_eq_getElem hlt⟩
    have hpr := byRs_at hp
    have hkl : (b.take k ++ List.replicate (b.length - k) (0 : UInt8)).length = b.length := by rw [List.length_append, List.length_take, List.length_replicate]; omega
    obtain ⟨z, hz⟩ : ∃ z, (b.take k ++ List.replicate (b.length - k) (0 : UInt8))[k]? = some z := ⟨_, List.getElem?_eq_getElem (by omega)⟩
    have hko2 : k < (byRs (b.take k ++ List.replicate (b.length - k) (0 : UInt8))).length := by rw [byRs_len]; omega
    repeat' (first | (refine is_al ?_; (first | (refine is_move ?_; (first | refine al_v (opx_move (.raw _)) ⟨rfl, trivial⟩ trivial rfl ?_ | refine al_v (opx_move (.sl _ _)) ⟨rfl, trivial⟩ trivial rfl ?_ | refine al_v (opx_move (.own _)) ⟨rfl, trivial⟩ trivial rfl ?_)) | (refine is_bin ?_; (first | refine al_v opx_lss ⟨rfl, rfl, trivial⟩ trivial rfl ?_ | refine al_v (opx_add (by unfold InR; omega)) ⟨rfl, rfl, trivial⟩ trivial rfl ?_)) | (refine is_load ?_; refine al_v opx_ld_imm ⟨rfl, trivial⟩ trivial rfl ?_) | (refine is_assign ?_; refine al_v (opx_assign (.raw _)) ⟨rfl, trivial⟩ trivial rfl ?_) | (refine is_bi ?_; refine al_v opx_len_sl ⟨rfl, trivial⟩ trivial rfl ?_) | (refine is_ia ?_; (first | refine al_v (opx_ia_sl2 hpr (by omega)) ⟨rfl, rfl, trivial⟩ trivial rfl ?_ | refine al_v (opx_ia_own2 hko2 (by omega)) ⟨rfl, rfl, trivial⟩ ⟨rfl, trivial⟩ rfl ?_)) | (refine is_st ?_; refine al_stB rfl rfl rfl (by assumption) ?_) | refine al_nil ?_)) | (refine is_aw ?_; (first | refine aw_seq ?_ | refine aw_region ?_ | refine aw_skip ?_ | refine aw_block ?_ | (refine is_cond ?_; refine aw_cond_t rfl (by assumption) ?_))) | refine thn_n ?_)
    rw [take_set (z := 0) hp rfl]
    exact ⟨k + 1, hlt, by omega, le_mk [0] rfl rfl rfl rfl ⟨rfl, rfl, rfl, trivial⟩ ⟨rfl, trivial⟩⟩
  · have hc : decide ((k : Int) < ((byRs b).length : Int)) = false := decide_eq_false (by omega)
    repeat' (first | (refine is_al ?_; (first | (refine is_move ?_; (first | refine al_v (opx_move (.raw _)) ⟨rfl, trivial⟩ trivial rfl ?_ | refine al_v (opx_move (.sl _ _)) ⟨rfl, trivial⟩ trivial rfl ?_ | refine al_v (opx_move (.own _)) ⟨rfl, trivial⟩ trivial rfl ?_)) | (refine is_bin ?_; refine al_v opx_lss ⟨rfl, rfl, trivial⟩ trivial rfl ?_) | (refine is_assign ?_; refine al_v (opx_assign (.own _)) ⟨rfl, trivial⟩ trivial rfl ?_) | (refine is_bi ?_; refine al_v opx_len_sl ⟨rfl, trivial⟩ trivial rfl ?_) | refine al_nil ?_)) | (refine is_aw ?_; (first | refine aw_seq ?_ | refine aw_region ?_ | refine aw_ret ?_ | refine aw_exit ?_ | (refine is_cond ?_; refine aw_cond_f rfl (by assumption) ?_))))
    exact ret_row trivial rfl rfl ⟨rfl, by rw [show k = b.length by omega]; simp⟩
theorem c_eqByteS (b : List UInt8) (hL : b.length ≤ 2000000) : Con Try.prog 11 [slB b, slB b] [] (fun rs all => rs = [rB true] ∧ all = []) := by
  have hla := byRs_len (bs := b)
  refine con_of_aw (vars := [.tmp 4]) [(0, .r (slB b)), (1, .r (slB b))] [] 0 Try.func11 (by kernel_rfl) rfl Try.ntmps11 rfl (by decide) rfl rfl rfl rfl rfl ?_
  intro B M w0 ρ0 Z0
  have n0 : (!decide (((byRs b).length : Int) = ((byRs b).length : Int))) = false := neD _
  repeat' (first | (refine is_al ?_; (first | (refine is_move ?_; refine al_v (opx_move (.sl _ _)) ⟨rfl, trivial⟩ trivial rfl ?_) | (refine is_bin ?_; refine al_v opx_neq ⟨rfl, rfl, trivial⟩ trivial rfl ?_) | (refine is_assign ?_; refine al_v (opx_assign (.raw _)) ⟨rfl, trivial⟩ trivial rfl ?_) | (refine is_bi ?_; refine al_v opx_len_sl ⟨rfl, trivial⟩ trivial rfl ?_) | refine al_nil ?_)) | (refine is_aw ?_; (first | refine aw_seq ?_ | refine aw_region ?_ | refine aw_skip ?_ | refine aw_block ?_ | (refine is_cond ?_; refine aw_cond_f rfl (by assumption) ?_))))
  refine aw_loop (γ := Nat) (fun k => [(0, .r (slB b)), (1, .r (slB b)), (4, .b false), (5, .i (k : Int))]) (fun _ => []) (fun _ => 0) (fun k => k ≤ b.length) (fun k => b.length - k) 0 (Nat.zero_le _) (le_mk [] rfl rfl rfl rfl ⟨rfl, rfl, rfl, rfl, trivial⟩ trivial) ?_
  rintro k hk
  rcases Nat.lt_or_ge k b.length with hlt | hge
  · have hc : decide ((k : Int) < ((byRs b).length : Int)) = true := decide_eq_true (by omega)
    obtain ⟨x, hx⟩ : ∃ x, b[k]? = some x := ⟨_, List.getElem?_eq_getElem hlt⟩
    have hxr := byRs_at hx
    have n1 : (!decide ((x.toNat : Int) = (x.toNat : Int))) = false := neD _
    repeat' (first | (refine is_al ?_; (first | (refine is_move ?_; (first | refine al_v (opx_move (.raw _)) ⟨rfl, trivial⟩ trivial rfl ?_ | refine al_v (opx_move (.sl _ _)) ⟨rfl, trivial⟩ trivial rfl ?_)) | (refine is_bin ?_; (first | refine al_v opx_lss ⟨rfl, rfl, trivial⟩ trivial rfl ?_ | refine al_v (opx_add (by unfold InR; omega)) ⟨rfl, rfl, trivial⟩ trivial rfl ?_)) | (refine is_assign ?_; refine al_v (opx_assign (.raw _)) ⟨rfl, trivial⟩ trivial rfl ?_) | (refine is_bi ?_; refine al_v opx_len_sl ⟨rfl, trivial⟩ trivial rfl ?_) | refine al_nil ?_)) | (refine is_ad ?_; (first | (refine isd_move ?_; (first | refine ad_v (opx_move (.raw _)) ⟨rfl, trivial⟩ trivial rfl ?_ | refine ad_v (opx_move (.sl _ _)) ⟨rfl, trivial⟩ trivial rfl ?_)) | (refine isd_bin ?_; refine ad_v opx_neq ⟨rfl, rfl, trivial⟩ trivial rfl ?_) | (refine isd_load ?_; refine ad_v opx_ld_imm ⟨rfl, trivial⟩ trivial rfl ?_) | (refine isd_ia ?_; refine ad_v (opx_ia_sl2 hxr (by omega)) ⟨rfl, rfl, trivial⟩ trivial rfl ?_) | refine ad_nil (by kernel_rfl) ?_)) | (refine is_aw ?_; (first | refine aw_seq ?_ | refine aw_region ?_ | refine aw_skip ?_ | refine aw_block ?_ | (refine is_cond ?_; (first | refine aw_cond_t rfl (by assumption) ?_ | refine aw_cond_f rfl (by assumption) ?_)) | refine aw_draw mixed ?_)) | refine thn_n ?_)
    exact ⟨k + 1, hlt, by omega, le_mk [] rfl rfl rfl rfl ⟨rfl, rfl, rfl, rfl, trivial⟩ trivial⟩
  · have hc : decide ((k : Int) < ((byRs b).length : Int)) = false := decide_eq_false (by omega)
    repeat' (first | (refine is_al ?_; (first | (refine is_move ?_; (first | refine al_v (opx_move (.raw _)) ⟨rfl, trivial⟩ trivial rfl ?_ | refine al_v (opx_move (.sl _ _)) ⟨rfl, trivial⟩ trivial rfl ?_)) | (refine is_bin ?_; refine al_v opx_lss ⟨rfl, rfl, trivial⟩ trivial rfl ?_) | (refine is_assign ?_; refine al_v (opx_assign (.raw _)) ⟨rfl, trivial⟩ trivial rfl ?_) | (refine is_bi ?_; refine al_v opx_len_sl ⟨rfl, trivial⟩ trivial rfl ?_) | refine al_nil ?_)) | (refine is_aw ?_; (first | refine aw_seq ?_ | refine aw_region ?_ | refine aw_ret ?_ | refine aw_exit ?_ | (refine is_cond ?_; refine aw_cond_f rfl (by assumption) ?_))))
    exact ret_raw trivial rfl ⟨congrArg (fun b => [rB b]) (rfl), rfl⟩
/-- Marks. -/
def mkB (k : Nat) (n : Nat) : List UInt8 := (List.range n).map fun i : Nat => UInt8.ofNat (k + i)
theorem mkB_len {k n : Nat} : (mkB k n).length = n := by simp [mkB]
theorem mkB_succ {k n : Nat} : mkB k (n + 1) = mkB k n ++ [UInt8.ofNat (k + n)] := by simp [mkB, List.range_succ]
theorem mkB_set {k j : Nat} {ps : List UInt8} {p : UInt8} (hp : ps[j]? = some p) : (mkB k j ++ ps.drop j).set j (UInt8.ofNat (k + j)) = mkB k (j + 1) ++ ps.drop (j + 1) := by
  obtain ⟨hj, rfl⟩ := List.getElem?_eq_some_iff.1 hp
  rw [List.set_append_right _ _ (by rw [mkB_len]; omega), mkB_len, Nat.sub_self, List.drop_eq_getElem_cons hj, List.set_cons_zero, mkB_succ, List.append_assoc]; rfl
section
variable {P : Program} {d : Nat} {x : Operand} {ty : TypeId} {pos : String} {af : Array Edge} {gd : Option (Nat × Bool)}
theorem opx_byteW {src dst : TypeId} [h : CvT P src dst .u8] {n : Int} {k : Nat} (hn : n = (k : Int)) : OpX P ⟨some d, .convert src dst x, ty, pos, af, gd⟩ [(x, .i n)] [] [] [(d, .raw (.int .u8 (UInt8.ofNat k).toNat))] [] :=
  opx_conv (by
    subst hn
    have : ((UInt8.ofNat k).toNat : Int) = (k : Int) % 256 := by rw [UInt8.toNat_ofNat']; omega
    rw [this]
    simp [IntKind.wrap, IntKind.bits, IntKind.signed])
end
theorem c_markByteS (b : List UInt8) (k : Nat) (hk : k ≤ 1000000000000) (hL : b.length ≤ 1000000000) : Con Try.prog 12 [.one (.own 0), rI (k : Int)] [.row 1 5 (byRs b)] (fun rs all => rs = [.one (.c (.raw (.int .i64 ((k : Int) + (b.length : Int)))))] ∧ all = [.row 1 5 (byRs (mkB k b.length))]) := by
  refine con_of_aw (vars := [.tmp 4]) [(0, .own 0), (1, .r (rI (k : Int)))] [(0, .row 1 5 (byRs b))] 1 Try.func12 (by kernel_rfl) rfl Try.ntmps12 rfl (by decide) rfl rfl rfl rfl rfl ?_
  intro B M w0 ρ0 Z0
  repeat' (first | (refine is_al ?_; (first | (refine is_assign ?_; refine al_v (opx_assign (.raw _)) ⟨rfl, trivial⟩ trivial rfl ?_) | refine al_nil ?_)) | (refine is_aw ?_; (first | refine aw_seq ?_ | refine aw_region ?_ | refine aw_block ?_)))
  refine aw_loop (γ := Nat) (fun j => [(0, .own 0), (1, .i ((k : Int) + (j : Int))), (5, .i (j : Int))]) (fun j => [(0, .row 1 5 (byRs (mkB k j ++ b.drop j)))]) (fun _ => 1)
    (fun j => j ≤ b.length) (fun j => b.length - j) 0 (Nat.zero_le _) (le_mk [0] rfl rfl rfl rfl ⟨rfl, by rw [show (k : Int) + ((0 : Nat) : Int) = k by omega]; rfl, rfl, trivial⟩ ⟨rfl, trivial⟩) ?_
  intro j hj
  have hlen := byRs_len (bs := mkB k j ++ b.drop j)
  have hml : (mkB k j ++ b.drop j).length = b.length := by rw [List.length_append, mkB_len, List.length_drop]; omega
  rcases Nat.lt_or_ge j b.length with hlt | hge
  · have hc : decide ((j : Int) < ((byRs (mkB k j ++ b.drop j)).length : Int)) = true := decide_eq_true (by omega)
    obtain ⟨p, hp⟩ : ∃ p, b[j]? = some p := ⟨_, List.getElem?_eq_getElem hlt⟩
    have hp1 : (mkB k j ++ b.drop j)[j]? = some p := by rw [List.getElem?_append_right (by rw [mkB_len]; omega), mkB_len, Nat.sub_self, List.getElem?_drop]; exact hp
    have hj1 : j < (byRs (mkB k j ++ b.drop j)).length := by omega
    repeat' (first | (refine is_al ?_; (first | (refine is_move ?_; (first | refine al_v (opx_move (.raw _)) ⟨rfl, trivial⟩ trivial rfl ?_ | refine al_v (opx_move (.own _)) ⟨rfl, trivial⟩ trivial rfl ?_)) | (refine is_bin ?_; (first | refine al_v opx_lss ⟨rfl, rfl, trivial⟩ trivial rfl ?_ | refine al_v (opx_add (by unfold InR; omega)) ⟨rfl, rfl, trivial⟩ trivial rfl ?_)) | (refine is_assign ?_; refine al_v (opx_assign (.raw _)) ⟨rfl, trivial⟩ trivial rfl ?_) | (refine is_bi ?_; refine al_v opx_len_own ⟨rfl, trivial⟩ ⟨rfl, trivial⟩ rfl ?_) | (refine is_ia ?_; refine al_v (opx_ia_own2 hj1 (by omega)) ⟨rfl, rfl, trivial⟩ ⟨rfl, trivial⟩ rfl ?_) | (refine is_st ?_; refine al_stB rfl rfl rfl (by assumption) ?_) | refine al_nil ?_ | refine al_v (opx_byteW (k := k + j) (by omega)) ⟨rfl, trivial⟩ trivial rfl ?_)) | (refine is_ad ?_; refine al_v (opx_byteW (k := k + j) (by omega)) ⟨rfl, trivial⟩ trivial rfl ?_) | (refine is_aw ?_; (first | refine aw_seq ?_ | refine aw_region ?_ | refine aw_skip ?_ | refine aw_block ?_ | (refine is_cond ?_; refine aw_cond_t rfl (by assumption) ?_))) | refine thn_n ?_)
    rw [mkB_set hp]
    exact ⟨j + 1, hlt, by omega, le_mk [0] rfl rfl rfl rfl ⟨rfl, by rw [show (k : Int) + ((j + 1 : Nat) : Int) = k + (j : Int) + 1 by omega]; rfl, rfl, trivial⟩ ⟨rfl, trivial⟩⟩
  · have hc : decide ((j : Int) < ((byRs (mkB k j ++ b.drop j)).length : Int)) = false := decide_eq_false (by omega)
    obtain rfl : j = b.length := by omega
    rw [List.drop_length, List.append_nil]
    rw [List.drop_length, List.append_nil] at hc
    repeat' (first | (refine is_al ?_; (first | (refine is_move ?_; (first | refine al_v (opx_move (.raw _)) ⟨rfl, trivial⟩ trivial rfl ?_ | refine al_v (opx_move (.own _)) ⟨rfl, trivial⟩ trivial rfl ?_)) | (refine is_bin ?_; refine al_v opx_lss ⟨rfl, rfl, trivial⟩ trivial rfl ?_) | (refine is_assign ?_; refine al_v (opx_assign (.raw _)) ⟨rfl, trivial⟩ trivial rfl ?_) | (refine is_bi ?_; refine al_v opx_len_own ⟨rfl, trivial⟩ ⟨rfl, trivial⟩ rfl ?_) | refine al_nil ?_)) | (refine is_aw ?_; (first | refine aw_seq ?_ | refine aw_region ?_ | refine aw_ret ?_ | refine aw_exit ?_ | (refine is_cond ?_; refine aw_cond_f rfl (by assumption) ?_))))
    exact retm_raw trivial rfl rfl rfl ⟨rfl, rfl⟩
theorem c_markByteS1 (b : List UInt8) (hL : b.length ≤ 1000000000) : Con Try.prog 12 [.one (.own 0), rI 1] [.row 1 5 (byRs b)] (fun rs all => rs = [.one (.c (.raw (.int .i64 (1 + (b.length : Int)))))] ∧ all = [.row 1 5 (byRs (mkB 1 b.length))]) :=
  c_markByteS b 1 (by omega) hL
end Go.Proofs.Ytjhokokkablcpaa
