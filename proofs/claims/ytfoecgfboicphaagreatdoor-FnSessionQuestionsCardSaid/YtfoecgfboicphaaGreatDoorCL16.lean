/- Texts: W105 PG Eng34 -/
import Derived.Test.YtfoecgfboicphaaGreatDoorCL15
import Derived.Test.YtfoecgfboicphaaGreatDoorCL13
import Derived.Test.YtfoecgfboicphaaGreatDoorCL8
import Derived.Test.YtfoecgfboicphaaGreatDoorCL9
import Derived.MapKept
/-
  Lines: what is read from their words.
-/
namespace Go.Proofs.YtfoecgfboicphaaGreatDoor
open Go.RowKit
set_option linter.unusedVariables false
set_option linter.unusedSimpArgs false
attribute [local irreducible] AL AW OpX Le AD

section ends
variable {P : Program} {Post : List AR → List OB → Prop} {e : Exit} {l : SL} {m : OL} {n t t2 t3 u u2 : Nat}
theorem ret_row_cell_raw {wd : Nat} {el el2 ty : TypeId} {rows : List (List CV)} {cells : List A1} {v : Value} {u2 : Nat} (he : isEnd e) (h : lk .dead l t = .own u) (hr : lk .gone m u = .row wd el rows) (h2 : lk .dead l t2 = .ref u2 0) (hb : lk .gone m u2 = .box el2 cells) (hs : strTy P ty = some cells.length)
    (hsub : AR.sub (perm [u]) (.agg cells) = .agg cells) (h3 : lk .dead l t3 = .raw v) (ht : resTags [.one (.own 0), .agg cells, .one (.c (.raw v))] [.row wd el rows] = true) (hp : Post [.one (.own 0), .agg cells, .one (.c (.raw v))] [.row wd el rows]) : RetG P [.tmp t, .cell t2 ty, .tmp t3] 0 Post e l m n :=
  retg_mk he [.one (.own 0), .agg cells, .one (.c (.raw v))] [.row wd el rows] [u] hp (Nat.zero_le _) rfl rfl rfl ht ⟨h, ⟨u2, el2, cells, h2, hb, .inl ⟨hs, hsub⟩⟩, h3, trivial⟩ ⟨hr, trivial⟩
end ends
def ptB (t v : Int) : Bool := decide (0 ≤ t ∧ t ≤ 1000 ∧ -1000 ≤ v ∧ v ≤ 1000)
noncomputable def plW (a b c : Str) : Bool := prsB a && (numB b && (numB c && ptB (numN c) (numN b)))
noncomputable def plO (s : Str) : Option (List Lb × Int × Int) := match spl 32 s with
  | [a, b, c] => if plW a b c = true then some (prsL a, numN c, numN b) else none
  | _ => none
noncomputable def plB (s : Str) : Bool := (plO s).isSome
noncomputable def plG (s : Str) : List Lb × Int × Int := (plO s).getD ([], 0, 0)
theorem pl_none {s : Str} (h : plO s = none) : plB s = false ∧ plG s = ([], 0, 0) := by rw [plB, plG, h]; exact ⟨rfl, rfl⟩
theorem pl_three {s a b c : Str} (h : spl 32 s = [a, b, c]) : plO s = if plW a b c = true then some (prsL a, numN c, numN b) else none := by unfold plO; rw [h]
theorem pl_other {s : Str} (h : (spl 32 s).length ≠ 3) : plO s = none := by
  unfold plO
  split
  · rename_i a b c e; rw [e] at h; exact absurd rfl h
  · rfl
theorem pl_f {s a b c : Str} (h : spl 32 s = [a, b, c]) (hw : plW a b c = false) : plB s = false ∧ plG s = ([], 0, 0) := pl_none (by rw [pl_three h, hw]; rfl)
theorem pl_t {s a b c : Str} (h : spl 32 s = [a, b, c]) (hw : plW a b c = true) : plB s = true ∧ plG s = (prsL a, numN c, numN b) := by
  rw [plB, plG, pl_three h, if_pos hw]; exact ⟨rfl, rfl⟩
theorem pl_of {s : Str} (h : plB s = true) : ∃ a b c, spl 32 s = [a, b, c] ∧ plW a b c = true ∧ plG s = (prsL a, numN c, numN b) := by
  cases ho : plO s with
  | none => rw [plB, ho] at h; cases h
  | some g =>
    unfold plO at ho
    split at ho
    · rename_i a b c e
      split at ho
      · rename_i hw
        exact ⟨a, b, c, e, hw, (pl_t e hw).2⟩
      · cases ho
    · cases ho
def PLs (s : Str) (rs : List AR) (all : List OB) : Prop := rs = [.one (.own 0), ptA (plG s).2.1 (plG s).2.2, rB (plB s)] ∧ all = [.row 2 104 (lbRs (plG s).1)]
theorem c_ParseLine (s : Str) (hs : s.length ≤ 100000000) : Con Tryz.prog 30 [rStr s] [] (PLs s) := by
  have n1 : (!true) = false := rfl
  have n2 : (!false) = true := rfl
  have hcs := c_Split s (by omega)
  have hl := stRs_len (xs := spl 32 s)
  by_cases h3 : (spl 32 s).length = 3
  · obtain ⟨a, b, c, e⟩ : ∃ a b c, spl 32 s = [a, b, c] := by
      match h : spl 32 s, h3 with
      | [a, b, c], _ => exact ⟨a, b, c, rfl⟩
    have ha := spl_leW (c := 32) (s := s) a (by rw [e]; simp)
    have hb := spl_leW (c := 32) (s := s) b (by rw [e]; simp)
    have hc := spl_leW (c := 32) (s := s) c (by rw [e]; simp)
    rw [e] at hcs
    clear hl
    have d3 : (!decide (((stRs [a, b, c]).length : Int) = 3)) = false := rfl
    have i0 : (stRs [a, b, c])[0]? = some (stR a) := rfl
    have i1 : (stRs [a, b, c])[1]? = some (stR b) := rfl
    have i2 : (stRs [a, b, c])[2]? = some (stR c) := rfl
    have c1 : Con Tryz.prog 47 [rStr a] [] (fun rs all => rs = [.one (.own 0), rB (prsB a)] ∧ all = [.row 2 104 (lbRs (prsL a))]) := c_ParseLabels a (by omega)
    have c2 := c_numberOf b
    have c3 := c_numberOf c
    have c4 := c_validPoint (numN c) (numN b)
    have p4 : decide (0 ≤ numN c ∧ numN c ≤ 1000 ∧ -1000 ≤ numN b ∧ numN b ≤ 1000) = ptB (numN c) (numN b) := rfl
    rw [p4] at c4
    cases g1 : prsB a with
    | false =>
      obtain ⟨f1, f2⟩ := pl_f e (by rw [plW, g1]; rfl)
      rw [g1] at c1
      refine con_of_aw (vars := [.tmp 2, .cell 3 66, .tmp 4]) [(0, .r (rStr s))] [] 0 Tryz.func30 (by kernel_rfl) rfl Tryz.ntmps30 rfl (by decide) rfl rfl rfl rfl rfl ?_; intro B M w0 ρ0 Z0
      repeat' (first | (refine is_al ?_; (first | (refine is_gd ?_; refine al_off rfl rfl rfl (by assumption) rfl ?_) | (refine is_move ?_; (first | refine al_v (opx_move (.raw _)) ⟨rfl, trivial⟩ trivial rfl ?_ | refine al_v (opx_move (.sl _ _)) ⟨rfl, trivial⟩ trivial rfl ?_ | refine al_v (opx_move (.tup _)) ⟨rfl, trivial⟩ trivial rfl ?_)) | (refine is_bin ?_; refine al_v opx_neq ⟨rfl, rfl, trivial⟩ trivial rfl ?_) | (refine is_load ?_; refine al_v opx_ld_imm ⟨rfl, trivial⟩ trivial rfl ?_) | (refine is_assign ?_; (first | refine al_v (opx_assign (.raw _)) ⟨rfl, trivial⟩ trivial rfl ?_ | refine al_v (opx_assign (.sl _ _)) ⟨rfl, trivial⟩ trivial rfl ?_ | refine al_v (opx_assign (.own _)) ⟨rfl, trivial⟩ trivial rfl ?_)) | (refine is_pick ?_; refine al_v (opx_pick_t (.raw _) rfl) ⟨rfl, rfl, trivial⟩ trivial rfl ?_) | (refine is_bi ?_; refine al_v opx_len_sl ⟨rfl, trivial⟩ trivial rfl ?_) | (refine is_ia ?_; (first | refine al_v (opx_ia_sl2 i0 (by omega)) ⟨rfl, rfl, trivial⟩ trivial rfl ?_ | refine al_v (opx_ia_sl2 i1 (by omega)) ⟨rfl, rfl, trivial⟩ trivial rfl ?_ | refine al_v (opx_ia_sl2 i2 (by omega)) ⟨rfl, rfl, trivial⟩ trivial rfl ?_)) | (refine is_call ?_; (first | refine al_callF (by (repeat (first | exact .nil | refine .one rfl rfl ?_ | refine .froz rfl rfl ?_ | refine .rnil rfl ?_ | refine .agg rfl (by (repeat (first | exact .nil | refine .cons (.same rfl) ?_ | refine .cons (.froz rfl) ?_ | refine .cons (.rnil) ?_)); (first | done | fail)) ?_)); (first | done | fail)) rfl (hcs) rfl ?_ | refine al_callrv2 (by (repeat (first | exact .nil | refine .one rfl rfl ?_ | refine .froz rfl rfl ?_ | refine .rnil rfl ?_ | refine .agg rfl (by (repeat (first | exact .nil | refine .cons (.same rfl) ?_ | refine .cons (.froz rfl) ?_ | refine .cons (.rnil) ?_)); (first | done | fail)) ?_)); (first | done | fail)) rfl (c1) ?_ | refine al_callv2 (by (repeat (first | exact .nil | refine .one rfl rfl ?_ | refine .froz rfl rfl ?_ | refine .row rfl rfl ?_ | refine .rnil rfl ?_ | refine .agg rfl (by (repeat (first | exact .nil | refine .cons (.same rfl) ?_ | refine .cons (.froz rfl) ?_ | refine .cons (.rnil) ?_ | refine .cons (.row rfl rfl) ?_)); (first | done | fail)) ?_)); (first | done | fail)) rfl (c2) rfl ?_ | refine al_callv2 (by (repeat (first | exact .nil | refine .one rfl rfl ?_ | refine .froz rfl rfl ?_ | refine .row rfl rfl ?_ | refine .rnil rfl ?_ | refine .agg rfl (by (repeat (first | exact .nil | refine .cons (.same rfl) ?_ | refine .cons (.froz rfl) ?_ | refine .cons (.rnil) ?_ | refine .cons (.row rfl rfl) ?_)); (first | done | fail)) ?_)); (first | done | fail)) rfl (c3) rfl ?_)) | (refine is_st ?_; refine al_s (opx_sts_box (by rfl) (by rfl)) ⟨rfl, rfl, trivial⟩ ⟨rfl, trivial⟩ ?_) | refine al_v opx_not ⟨rfl, trivial⟩ trivial rfl ?_ | refine al_v (opx_extract _ rfl) ⟨rfl, trivial⟩ trivial rfl ?_ | refine al_v (opx_build2 (res := [_, _]) rfl) ⟨rfl, rfl, trivial⟩ trivial rfl ?_ | refine al_n opx_alloc trivial trivial rfl ?_ | refine al_nil ?_ | refine al_v opx_build0 trivial trivial rfl ?_)) | (refine is_ad ?_; refine al_v opx_build0 trivial trivial rfl ?_) | (refine is_aw ?_; (first | refine aw_seq ?_ | refine aw_region ?_ | refine aw_skip ?_ | (refine is_cond ?_; (first | refine aw_cond_t rfl rfl ?_ | refine aw_cond_f rfl rfl ?_)))) | refine thn_n ?_)
      refine aw_le (le_ownNil 2 2 104 rfl) ?_
      repeat' (first | (refine is_aw ?_; refine aw_ret ?_) | refine thn_r ?_)
      exact ret_row_cell_raw trivial rfl rfl rfl rfl (by kernel_rfl) rfl rfl rfl ⟨by rw [f1, f2]; rfl, by rw [f2]; rfl⟩
    | true =>
      cases g2 : numB b with
      | false =>
        obtain ⟨f1, f2⟩ := pl_f e (by rw [plW, g1, g2]; rfl)
        rw [g1] at c1
        rw [g2] at c2
        refine con_of_aw (vars := [.tmp 2, .cell 3 66, .tmp 4]) [(0, .r (rStr s))] [] 0 Tryz.func30 (by kernel_rfl) rfl Tryz.ntmps30 rfl (by decide) rfl rfl rfl rfl rfl ?_; intro B M w0 ρ0 Z0
        repeat' (first | (refine is_al ?_; (first | (refine is_gd ?_; (first | refine al_on rfl rfl rfl (by assumption) ?_ | refine al_off rfl rfl rfl (by assumption) rfl ?_)) | (refine is_move ?_; (first | refine al_v (opx_move (.raw _)) ⟨rfl, trivial⟩ trivial rfl ?_ | refine al_v (opx_move (.sl _ _)) ⟨rfl, trivial⟩ trivial rfl ?_ | refine al_v (opx_move (.tup _)) ⟨rfl, trivial⟩ trivial rfl ?_)) | (refine is_bin ?_; refine al_v opx_neq ⟨rfl, rfl, trivial⟩ trivial rfl ?_) | (refine is_load ?_; refine al_v opx_ld_imm ⟨rfl, trivial⟩ trivial rfl ?_) | (refine is_assign ?_; (first | refine al_v (opx_assign (.raw _)) ⟨rfl, trivial⟩ trivial rfl ?_ | refine al_v (opx_assign (.sl _ _)) ⟨rfl, trivial⟩ trivial rfl ?_ | refine al_v (opx_assign (.own _)) ⟨rfl, trivial⟩ trivial rfl ?_)) | (refine is_pick ?_; (first | refine al_v (opx_pick_t (.raw _) rfl) ⟨rfl, rfl, trivial⟩ trivial rfl ?_ | refine al_v (opx_pick_f (.raw _) rfl) ⟨rfl, rfl, trivial⟩ trivial rfl ?_)) | (refine is_bi ?_; refine al_v opx_len_sl ⟨rfl, trivial⟩ trivial rfl ?_) | (refine is_ia ?_; (first | refine al_v (opx_ia_sl2 i0 (by omega)) ⟨rfl, rfl, trivial⟩ trivial rfl ?_ | refine al_v (opx_ia_sl2 i1 (by omega)) ⟨rfl, rfl, trivial⟩ trivial rfl ?_ | refine al_v (opx_ia_sl2 i2 (by omega)) ⟨rfl, rfl, trivial⟩ trivial rfl ?_)) | (refine is_call ?_; (first | refine al_callF (by (repeat (first | exact .nil | refine .one rfl rfl ?_ | refine .froz rfl rfl ?_ | refine .rnil rfl ?_ | refine .agg rfl (by (repeat (first | exact .nil | refine .cons (.same rfl) ?_ | refine .cons (.froz rfl) ?_ | refine .cons (.rnil) ?_)); (first | done | fail)) ?_)); (first | done | fail)) rfl (hcs) rfl ?_ | refine al_callrv2 (by (repeat (first | exact .nil | refine .one rfl rfl ?_ | refine .froz rfl rfl ?_ | refine .rnil rfl ?_ | refine .agg rfl (by (repeat (first | exact .nil | refine .cons (.same rfl) ?_ | refine .cons (.froz rfl) ?_ | refine .cons (.rnil) ?_)); (first | done | fail)) ?_)); (first | done | fail)) rfl (c1) ?_ | refine al_callv2 (by (repeat (first | exact .nil | refine .one rfl rfl ?_ | refine .froz rfl rfl ?_ | refine .row rfl rfl ?_ | refine .rnil rfl ?_ | refine .agg rfl (by (repeat (first | exact .nil | refine .cons (.same rfl) ?_ | refine .cons (.froz rfl) ?_ | refine .cons (.rnil) ?_ | refine .cons (.row rfl rfl) ?_)); (first | done | fail)) ?_)); (first | done | fail)) rfl (c2) rfl ?_ | refine al_callv2 (by (repeat (first | exact .nil | refine .one rfl rfl ?_ | refine .froz rfl rfl ?_ | refine .row rfl rfl ?_ | refine .rnil rfl ?_ | refine .agg rfl (by (repeat (first | exact .nil | refine .cons (.same rfl) ?_ | refine .cons (.froz rfl) ?_ | refine .cons (.rnil) ?_ | refine .cons (.row rfl rfl) ?_)); (first | done | fail)) ?_)); (first | done | fail)) rfl (c3) rfl ?_)) | (refine is_st ?_; refine al_s (opx_sts_box (by rfl) (by rfl)) ⟨rfl, rfl, trivial⟩ ⟨rfl, trivial⟩ ?_) | refine al_v opx_not ⟨rfl, trivial⟩ trivial rfl ?_ | refine al_v (opx_extract _ rfl) ⟨rfl, trivial⟩ trivial rfl ?_ | refine al_v (opx_build2 (res := [_, _]) rfl) ⟨rfl, rfl, trivial⟩ trivial rfl ?_ | refine al_n opx_alloc trivial trivial rfl ?_ | refine al_nil ?_ | refine al_v opx_build0 trivial trivial rfl ?_)) | (refine is_ad ?_; refine al_v opx_build0 trivial trivial rfl ?_) | (refine is_aw ?_; (first | refine aw_seq ?_ | refine aw_region ?_ | refine aw_skip ?_ | (refine is_cond ?_; (first | refine aw_cond_t rfl rfl ?_ | refine aw_cond_f rfl rfl ?_)))) | refine thn_n ?_)
        refine aw_le (le_ownNil 2 2 104 rfl) ?_
        repeat' (first | (refine is_aw ?_; refine aw_ret ?_) | refine thn_r ?_)
        exact ret_row_cell_raw trivial rfl rfl rfl rfl (by kernel_rfl) rfl rfl rfl ⟨by rw [f1, f2]; rfl, by rw [f2]; rfl⟩
      | true =>
        cases g3 : numB c with
        | false =>
          obtain ⟨f1, f2⟩ := pl_f e (by rw [plW, g1, g2, g3]; rfl)
          rw [g1] at c1
          rw [g2] at c2
          rw [g3] at c3
          refine con_of_aw (vars := [.tmp 2, .cell 3 66, .tmp 4]) [(0, .r (rStr s))] [] 0 Tryz.func30 (by kernel_rfl) rfl Tryz.ntmps30 rfl (by decide) rfl rfl rfl rfl rfl ?_; intro B M w0 ρ0 Z0
          repeat' (first | (refine is_al ?_; (first | (refine is_gd ?_; (first | refine al_on rfl rfl rfl (by assumption) ?_ | refine al_off rfl rfl rfl (by assumption) rfl ?_)) | (refine is_move ?_; (first | refine al_v (opx_move (.raw _)) ⟨rfl, trivial⟩ trivial rfl ?_ | refine al_v (opx_move (.sl _ _)) ⟨rfl, trivial⟩ trivial rfl ?_ | refine al_v (opx_move (.tup _)) ⟨rfl, trivial⟩ trivial rfl ?_)) | (refine is_bin ?_; refine al_v opx_neq ⟨rfl, rfl, trivial⟩ trivial rfl ?_) | (refine is_load ?_; refine al_v opx_ld_imm ⟨rfl, trivial⟩ trivial rfl ?_) | (refine is_assign ?_; (first | refine al_v (opx_assign (.raw _)) ⟨rfl, trivial⟩ trivial rfl ?_ | refine al_v (opx_assign (.sl _ _)) ⟨rfl, trivial⟩ trivial rfl ?_ | refine al_v (opx_assign (.own _)) ⟨rfl, trivial⟩ trivial rfl ?_)) | (refine is_pick ?_; (first | refine al_v (opx_pick_t (.raw _) rfl) ⟨rfl, rfl, trivial⟩ trivial rfl ?_ | refine al_v (opx_pick_f (.raw _) rfl) ⟨rfl, rfl, trivial⟩ trivial rfl ?_)) | (refine is_bi ?_; refine al_v opx_len_sl ⟨rfl, trivial⟩ trivial rfl ?_) | (refine is_ia ?_; (first | refine al_v (opx_ia_sl2 i0 (by omega)) ⟨rfl, rfl, trivial⟩ trivial rfl ?_ | refine al_v (opx_ia_sl2 i1 (by omega)) ⟨rfl, rfl, trivial⟩ trivial rfl ?_ | refine al_v (opx_ia_sl2 i2 (by omega)) ⟨rfl, rfl, trivial⟩ trivial rfl ?_)) | (refine is_call ?_; (first | refine al_callF (by (repeat (first | exact .nil | refine .one rfl rfl ?_ | refine .froz rfl rfl ?_ | refine .rnil rfl ?_ | refine .agg rfl (by (repeat (first | exact .nil | refine .cons (.same rfl) ?_ | refine .cons (.froz rfl) ?_ | refine .cons (.rnil) ?_)); (first | done | fail)) ?_)); (first | done | fail)) rfl (hcs) rfl ?_ | refine al_callrv2 (by (repeat (first | exact .nil | refine .one rfl rfl ?_ | refine .froz rfl rfl ?_ | refine .rnil rfl ?_ | refine .agg rfl (by (repeat (first | exact .nil | refine .cons (.same rfl) ?_ | refine .cons (.froz rfl) ?_ | refine .cons (.rnil) ?_)); (first | done | fail)) ?_)); (first | done | fail)) rfl (c1) ?_ | refine al_callv2 (by (repeat (first | exact .nil | refine .one rfl rfl ?_ | refine .froz rfl rfl ?_ | refine .row rfl rfl ?_ | refine .rnil rfl ?_ | refine .agg rfl (by (repeat (first | exact .nil | refine .cons (.same rfl) ?_ | refine .cons (.froz rfl) ?_ | refine .cons (.rnil) ?_ | refine .cons (.row rfl rfl) ?_)); (first | done | fail)) ?_)); (first | done | fail)) rfl (c2) rfl ?_ | refine al_callv2 (by (repeat (first | exact .nil | refine .one rfl rfl ?_ | refine .froz rfl rfl ?_ | refine .row rfl rfl ?_ | refine .rnil rfl ?_ | refine .agg rfl (by (repeat (first | exact .nil | refine .cons (.same rfl) ?_ | refine .cons (.froz rfl) ?_ | refine .cons (.rnil) ?_ | refine .cons (.row rfl rfl) ?_)); (first | done | fail)) ?_)); (first | done | fail)) rfl (c3) rfl ?_)) | (refine is_st ?_; refine al_s (opx_sts_box (by rfl) (by rfl)) ⟨rfl, rfl, trivial⟩ ⟨rfl, trivial⟩ ?_) | refine al_v opx_not ⟨rfl, trivial⟩ trivial rfl ?_ | refine al_v (opx_extract _ rfl) ⟨rfl, trivial⟩ trivial rfl ?_ | refine al_v (opx_build2 (res := [_, _]) rfl) ⟨rfl, rfl, trivial⟩ trivial rfl ?_ | refine al_n opx_alloc trivial trivial rfl ?_ | refine al_nil ?_ | refine al_v opx_build0 trivial trivial rfl ?_)) | (refine is_ad ?_; refine al_v opx_build0 trivial trivial rfl ?_) | (refine is_aw ?_; (first | refine aw_seq ?_ | refine aw_region ?_ | refine aw_skip ?_ | (refine is_cond ?_; (first | refine aw_cond_t rfl rfl ?_ | refine aw_cond_f rfl rfl ?_)))) | refine thn_n ?_)
          refine aw_le (le_ownNil 2 2 104 rfl) ?_
          repeat' (first | (refine is_aw ?_; refine aw_ret ?_) | refine thn_r ?_)
          exact ret_row_cell_raw trivial rfl rfl rfl rfl (by kernel_rfl) rfl rfl rfl ⟨by rw [f1, f2]; rfl, by rw [f2]; rfl⟩
        | true =>
          cases g4 : ptB (numN c) (numN b) with
          | false =>
            obtain ⟨f1, f2⟩ := pl_f e (by rw [plW, g1, g2, g3, g4]; rfl)
            rw [g1] at c1
            rw [g2] at c2
            rw [g3] at c3
            rw [g4] at c4
            refine con_of_aw (vars := [.tmp 2, .cell 3 66, .tmp 4]) [(0, .r (rStr s))] [] 0 Tryz.func30 (by kernel_rfl) rfl Tryz.ntmps30 rfl (by decide) rfl rfl rfl rfl rfl ?_; intro B M w0 ρ0 Z0
            repeat' (first | (refine is_al ?_; (first | (refine is_gd ?_; refine al_on rfl rfl rfl (by assumption) ?_) | (refine is_move ?_; (first | refine al_v (opx_move (.raw _)) ⟨rfl, trivial⟩ trivial rfl ?_ | refine al_v (opx_move (.sl _ _)) ⟨rfl, trivial⟩ trivial rfl ?_ | refine al_v (opx_move (.tup _)) ⟨rfl, trivial⟩ trivial rfl ?_)) | (refine is_bin ?_; refine al_v opx_neq ⟨rfl, rfl, trivial⟩ trivial rfl ?_) | (refine is_load ?_; (first | refine al_v opx_ld_imm ⟨rfl, trivial⟩ trivial rfl ?_ | refine al_v opx_ld2_box ⟨rfl, trivial⟩ ⟨rfl, trivial⟩ rfl ?_)) | (refine is_assign ?_; (first | refine al_v (opx_assign (.raw _)) ⟨rfl, trivial⟩ trivial rfl ?_ | refine al_v (opx_assign (.sl _ _)) ⟨rfl, trivial⟩ trivial rfl ?_ | refine al_v (opx_assign (.own _)) ⟨rfl, trivial⟩ trivial rfl ?_)) | (refine is_pick ?_; refine al_v (opx_pick_f (.raw _) rfl) ⟨rfl, rfl, trivial⟩ trivial rfl ?_) | (refine is_bi ?_; refine al_v opx_len_sl ⟨rfl, trivial⟩ trivial rfl ?_) | (refine is_ia ?_; (first | refine al_v (opx_ia_sl2 i0 (by omega)) ⟨rfl, rfl, trivial⟩ trivial rfl ?_ | refine al_v (opx_ia_sl2 i1 (by omega)) ⟨rfl, rfl, trivial⟩ trivial rfl ?_ | refine al_v (opx_ia_sl2 i2 (by omega)) ⟨rfl, rfl, trivial⟩ trivial rfl ?_)) | (refine is_call ?_; (first | refine al_callF (by (repeat (first | exact .nil | refine .one rfl rfl ?_ | refine .froz rfl rfl ?_ | refine .rnil rfl ?_ | refine .agg rfl (by (repeat (first | exact .nil | refine .cons (.same rfl) ?_ | refine .cons (.froz rfl) ?_ | refine .cons (.rnil) ?_)); (first | done | fail)) ?_)); (first | done | fail)) rfl (hcs) rfl ?_ | refine al_callrv2 (by (repeat (first | exact .nil | refine .one rfl rfl ?_ | refine .froz rfl rfl ?_ | refine .rnil rfl ?_ | refine .agg rfl (by (repeat (first | exact .nil | refine .cons (.same rfl) ?_ | refine .cons (.froz rfl) ?_ | refine .cons (.rnil) ?_)); (first | done | fail)) ?_)); (first | done | fail)) rfl (c1) ?_ | refine al_callv2 (by (repeat (first | exact .nil | refine .one rfl rfl ?_ | refine .froz rfl rfl ?_ | refine .row rfl rfl ?_ | refine .rnil rfl ?_ | refine .agg rfl (by (repeat (first | exact .nil | refine .cons (.same rfl) ?_ | refine .cons (.froz rfl) ?_ | refine .cons (.rnil) ?_ | refine .cons (.row rfl rfl) ?_)); (first | done | fail)) ?_)); (first | done | fail)) rfl (c2) rfl ?_ | refine al_callv2 (by (repeat (first | exact .nil | refine .one rfl rfl ?_ | refine .froz rfl rfl ?_ | refine .row rfl rfl ?_ | refine .rnil rfl ?_ | refine .agg rfl (by (repeat (first | exact .nil | refine .cons (.same rfl) ?_ | refine .cons (.froz rfl) ?_ | refine .cons (.rnil) ?_ | refine .cons (.row rfl rfl) ?_)); (first | done | fail)) ?_)); (first | done | fail)) rfl (c3) rfl ?_ | refine al_callv2 (by (repeat (first | exact .nil | refine .one rfl rfl ?_ | refine .froz rfl rfl ?_ | refine .row rfl rfl ?_ | refine .rnil rfl ?_ | refine .agg rfl (by (repeat (first | exact .nil | refine .cons (.same rfl) ?_ | refine .cons (.froz rfl) ?_ | refine .cons (.rnil) ?_ | refine .cons (.row rfl rfl) ?_)); (first | done | fail)) ?_)); (first | done | fail)) rfl (c4) rfl ?_)) | (refine is_st ?_; refine al_s (opx_sts_box (by rfl) (by rfl)) ⟨rfl, rfl, trivial⟩ ⟨rfl, trivial⟩ ?_) | refine al_v opx_not ⟨rfl, trivial⟩ trivial rfl ?_ | refine al_v (opx_extract _ rfl) ⟨rfl, trivial⟩ trivial rfl ?_ | refine al_v (opx_build2 (res := [_, _]) rfl) ⟨rfl, rfl, trivial⟩ trivial rfl ?_ | refine al_n opx_alloc trivial trivial rfl ?_ | refine al_nil ?_ | refine al_v opx_build0 trivial trivial rfl ?_)) | (refine is_ad ?_; refine al_v opx_build0 trivial trivial rfl ?_) | (refine is_aw ?_; (first | refine aw_seq ?_ | refine aw_region ?_ | refine aw_skip ?_ | (refine is_cond ?_; (first | refine aw_cond_t rfl rfl ?_ | refine aw_cond_f rfl rfl ?_)))) | refine thn_n ?_)
            refine aw_le (le_ownNil 2 2 104 rfl) ?_
            repeat' (first | (refine is_aw ?_; refine aw_ret ?_) | refine thn_r ?_)
            exact ret_row_cell_raw trivial rfl rfl rfl rfl (by kernel_rfl) rfl rfl rfl ⟨by rw [f1, f2]; rfl, by rw [f2]; rfl⟩
          | true =>
            obtain ⟨f1, f2⟩ := pl_t e (by rw [plW, g1, g2, g3, g4]; rfl)
            rw [g1] at c1
            rw [g2] at c2
            rw [g3] at c3
            rw [g4] at c4
            refine con_of_aw (vars := [.tmp 2, .cell 3 66, .tmp 4]) [(0, .r (rStr s))] [] 0 Tryz.func30 (by kernel_rfl) rfl Tryz.ntmps30 rfl (by decide) rfl rfl rfl rfl rfl ?_; intro B M w0 ρ0 Z0
            repeat' (first | (refine is_al ?_; (first | (refine is_gd ?_; refine al_on rfl rfl rfl (by assumption) ?_) | (refine is_move ?_; (first | refine al_v (opx_move (.raw _)) ⟨rfl, trivial⟩ trivial rfl ?_ | refine al_v (opx_move (.sl _ _)) ⟨rfl, trivial⟩ trivial rfl ?_ | refine al_v (opx_move (.tup _)) ⟨rfl, trivial⟩ trivial rfl ?_)) | (refine is_bin ?_; refine al_v opx_neq ⟨rfl, rfl, trivial⟩ trivial rfl ?_) | (refine is_load ?_; (first | refine al_v opx_ld_imm ⟨rfl, trivial⟩ trivial rfl ?_ | refine al_v opx_ld2_box ⟨rfl, trivial⟩ ⟨rfl, trivial⟩ rfl ?_)) | (refine is_assign ?_; (first | refine al_v (opx_assign (.raw _)) ⟨rfl, trivial⟩ trivial rfl ?_ | refine al_v (opx_assign (.sl _ _)) ⟨rfl, trivial⟩ trivial rfl ?_ | refine al_v (opx_assign (.own _)) ⟨rfl, trivial⟩ trivial rfl ?_)) | (refine is_pick ?_; refine al_v (opx_pick_f (.raw _) rfl) ⟨rfl, rfl, trivial⟩ trivial rfl ?_) | (refine is_bi ?_; refine al_v opx_len_sl ⟨rfl, trivial⟩ trivial rfl ?_) | (refine is_ia ?_; (first | refine al_v (opx_ia_sl2 i0 (by omega)) ⟨rfl, rfl, trivial⟩ trivial rfl ?_ | refine al_v (opx_ia_sl2 i1 (by omega)) ⟨rfl, rfl, trivial⟩ trivial rfl ?_ | refine al_v (opx_ia_sl2 i2 (by omega)) ⟨rfl, rfl, trivial⟩ trivial rfl ?_)) | (refine is_call ?_; (first | refine al_callF (by (repeat (first | exact .nil | refine .one rfl rfl ?_ | refine .froz rfl rfl ?_ | refine .rnil rfl ?_ | refine .agg rfl (by (repeat (first | exact .nil | refine .cons (.same rfl) ?_ | refine .cons (.froz rfl) ?_ | refine .cons (.rnil) ?_)); (first | done | fail)) ?_)); (first | done | fail)) rfl (hcs) rfl ?_ | refine al_callrv2 (by (repeat (first | exact .nil | refine .one rfl rfl ?_ | refine .froz rfl rfl ?_ | refine .rnil rfl ?_ | refine .agg rfl (by (repeat (first | exact .nil | refine .cons (.same rfl) ?_ | refine .cons (.froz rfl) ?_ | refine .cons (.rnil) ?_)); (first | done | fail)) ?_)); (first | done | fail)) rfl (c1) ?_ | refine al_callv2 (by (repeat (first | exact .nil | refine .one rfl rfl ?_ | refine .froz rfl rfl ?_ | refine .row rfl rfl ?_ | refine .rnil rfl ?_ | refine .agg rfl (by (repeat (first | exact .nil | refine .cons (.same rfl) ?_ | refine .cons (.froz rfl) ?_ | refine .cons (.rnil) ?_ | refine .cons (.row rfl rfl) ?_)); (first | done | fail)) ?_)); (first | done | fail)) rfl (c2) rfl ?_ | refine al_callv2 (by (repeat (first | exact .nil | refine .one rfl rfl ?_ | refine .froz rfl rfl ?_ | refine .row rfl rfl ?_ | refine .rnil rfl ?_ | refine .agg rfl (by (repeat (first | exact .nil | refine .cons (.same rfl) ?_ | refine .cons (.froz rfl) ?_ | refine .cons (.rnil) ?_ | refine .cons (.row rfl rfl) ?_)); (first | done | fail)) ?_)); (first | done | fail)) rfl (c3) rfl ?_ | refine al_callv2 (by (repeat (first | exact .nil | refine .one rfl rfl ?_ | refine .froz rfl rfl ?_ | refine .row rfl rfl ?_ | refine .rnil rfl ?_ | refine .agg rfl (by (repeat (first | exact .nil | refine .cons (.same rfl) ?_ | refine .cons (.froz rfl) ?_ | refine .cons (.rnil) ?_ | refine .cons (.row rfl rfl) ?_)); (first | done | fail)) ?_)); (first | done | fail)) rfl (c4) rfl ?_)) | (refine is_st ?_; refine al_s (opx_sts_box (by rfl) (by rfl)) ⟨rfl, rfl, trivial⟩ ⟨rfl, trivial⟩ ?_) | refine al_v opx_not ⟨rfl, trivial⟩ trivial rfl ?_ | refine al_v (opx_extract _ rfl) ⟨rfl, trivial⟩ trivial rfl ?_ | refine al_v (opx_build2 (res := [_, _]) rfl) ⟨rfl, rfl, trivial⟩ trivial rfl ?_ | refine al_n opx_alloc trivial trivial rfl ?_ | refine al_nil ?_)) | (refine is_ad ?_; (first | (refine isd_move ?_; refine ad_v (opx_move (.own _)) ⟨rfl, trivial⟩ trivial rfl ?_) | (refine isd_load ?_; refine ad_v opx_ld2_box ⟨rfl, trivial⟩ ⟨rfl, trivial⟩ rfl ?_) | (refine isd_assign ?_; (first | refine ad_v (opx_assign (.raw _)) ⟨rfl, trivial⟩ trivial rfl ?_ | refine ad_v (opx_assign (.own _)) ⟨rfl, trivial⟩ trivial rfl ?_)) | (refine isd_st ?_; refine ad_s (opx_sts_box (by rfl) (by rfl)) ⟨rfl, rfl, trivial⟩ ⟨rfl, trivial⟩ ?_) | refine ad_nil (by kernel_rfl) ?_)) | (refine is_aw ?_; (first | refine aw_seq ?_ | refine aw_region ?_ | refine aw_skip ?_ | refine aw_ret ?_ | (refine is_cond ?_; refine aw_cond_f rfl rfl ?_) | refine aw_draw mixed ?_)))
            exact ret_row_cell_raw trivial rfl rfl rfl rfl (by kernel_rfl) rfl rfl rfl ⟨by rw [f1, f2]; rfl, by rw [f2]⟩
  · obtain ⟨f1, f2⟩ := pl_none (pl_other h3)
    have d3 : (!decide (((stRs (spl 32 s)).length : Int) = 3)) = true := by rw [decide_eq_false (by omega)]; rfl
    refine con_of_aw (vars := [.tmp 2, .cell 3 66, .tmp 4]) [(0, .r (rStr s))] [] 0 Tryz.func30 (by kernel_rfl) rfl Tryz.ntmps30 rfl (by decide) rfl rfl rfl rfl rfl ?_; intro B M w0 ρ0 Z0
    repeat' (first | (refine is_al ?_; (first | (refine is_move ?_; (first | refine al_v (opx_move (.raw _)) ⟨rfl, trivial⟩ trivial rfl ?_ | refine al_v (opx_move (.sl _ _)) ⟨rfl, trivial⟩ trivial rfl ?_)) | (refine is_bin ?_; refine al_v opx_neq ⟨rfl, rfl, trivial⟩ trivial rfl ?_) | (refine is_assign ?_; (first | refine al_v (opx_assign (.raw _)) ⟨rfl, trivial⟩ trivial rfl ?_ | refine al_v (opx_assign (.sl _ _)) ⟨rfl, trivial⟩ trivial rfl ?_)) | (refine is_bi ?_; refine al_v opx_len_sl ⟨rfl, trivial⟩ trivial rfl ?_) | (refine is_call ?_; refine al_callF (by (repeat (first | exact .nil | refine .one rfl rfl ?_ | refine .froz rfl rfl ?_ | refine .rnil rfl ?_ | refine .agg rfl (by (repeat (first | exact .nil | refine .cons (.same rfl) ?_ | refine .cons (.froz rfl) ?_ | refine .cons (.rnil) ?_)); (first | done | fail)) ?_)); (first | done | fail)) rfl (hcs) rfl ?_) | (refine is_st ?_; refine al_s (opx_sts_box (by rfl) (by rfl)) ⟨rfl, rfl, trivial⟩ ⟨rfl, trivial⟩ ?_) | refine al_n opx_alloc trivial trivial rfl ?_ | refine al_nil ?_ | refine al_v opx_build0 trivial trivial rfl ?_)) | (refine is_ad ?_; refine al_v opx_build0 trivial trivial rfl ?_) | (refine is_aw ?_; (first | refine aw_seq ?_ | refine aw_region ?_ | (refine is_cond ?_; refine aw_cond_t rfl (by assumption) ?_))) | refine thn_n ?_)
    refine aw_le (le_ownNil 2 2 104 rfl) ?_
    repeat' (first | (refine is_aw ?_; refine aw_ret ?_) | refine thn_r ?_)
    exact ret_row_cell_raw trivial rfl rfl rfl rfl (by kernel_rfl) rfl rfl rfl ⟨by rw [f1, f2]; rfl, by rw [f2]; rfl⟩
theorem c_ParseLine' (s : Str) (hs : s.length ≤ 100000000) : Con Tryz.prog 30 [rStr s] [] (fun rs all => rs = [slL (plG s).1, ptA (plG s).2.1 (plG s).2.2, rB (plB s)] ∧ all = []) :=
  (c_ParseLine s hs).froz fun rs all ⟨h1, h2⟩ => by subst h1 h2; exact ⟨⟨rfl, rfl⟩, rfl⟩
theorem c_sParseLine (s : Str) (hs : s.length ≤ 100000000) : Con Tryz.prog 64 [rStr s] [] (PLs s) := by
  have n1 : (!true) = false := rfl
  have n2 : (!false) = true := rfl
  have hcs := c_splitAt' s 32 (by omega)
  have hl := stRs_len (xs := spl 32 s)
  by_cases h3 : (spl 32 s).length = 3
  · obtain ⟨a, b, c, e⟩ : ∃ a b c, spl 32 s = [a, b, c] := by
      match h : spl 32 s, h3 with
      | [a, b, c], _ => exact ⟨a, b, c, rfl⟩
    have ha := spl_leW (c := 32) (s := s) a (by rw [e]; simp)
    have hb := spl_leW (c := 32) (s := s) b (by rw [e]; simp)
    have hc := spl_leW (c := 32) (s := s) c (by rw [e]; simp)
    rw [e] at hcs
    clear hl
    have d3 : (!decide (((stRs [a, b, c]).length : Int) = 3)) = false := rfl
    have i0 : (stRs [a, b, c])[0]? = some (stR a) := rfl
    have i1 : (stRs [a, b, c])[1]? = some (stR b) := rfl
    have i2 : (stRs [a, b, c])[2]? = some (stR c) := rfl
    have c1 : Con Tryz.prog 91 [rStr a] [] (fun rs all => rs = [.one (.own 0), rB (prsB a)] ∧ all = [.row 2 104 (lbRs (prsL a))]) := c_sparse a (by omega)
    have c2 := c_parseInt b (by omega)
    have c3 := c_parseInt c (by omega)
    have c4 := c_sValidPoint (numN c) (numN b)
    have p4 : decide (0 ≤ numN c ∧ numN c ≤ 1000 ∧ -1000 ≤ numN b ∧ numN b ≤ 1000) = ptB (numN c) (numN b) := rfl
    rw [p4] at c4
    cases g1 : prsB a with
    | false =>
      obtain ⟨f1, f2⟩ := pl_f e (by rw [plW, g1]; rfl)
      rw [g1] at c1
      refine con_of_aw (vars := [.tmp 2, .cell 3 66, .tmp 4]) [(0, .r (rStr s))] [] 0 Tryz.func64 (by kernel_rfl) rfl Tryz.ntmps64 rfl (by decide) rfl rfl rfl rfl rfl ?_; intro B M w0 ρ0 Z0
      repeat' (first | (refine is_al ?_; (first | (refine is_gd ?_; refine al_off rfl rfl rfl (by assumption) rfl ?_) | (refine is_move ?_; (first | refine al_v (opx_move (.raw _)) ⟨rfl, trivial⟩ trivial rfl ?_ | refine al_v (opx_move (.sl _ _)) ⟨rfl, trivial⟩ trivial rfl ?_ | refine al_v (opx_move (.tup _)) ⟨rfl, trivial⟩ trivial rfl ?_)) | (refine is_bin ?_; refine al_v opx_neq ⟨rfl, rfl, trivial⟩ trivial rfl ?_) | (refine is_load ?_; refine al_v opx_ld_imm ⟨rfl, trivial⟩ trivial rfl ?_) | (refine is_assign ?_; (first | refine al_v (opx_assign (.raw _)) ⟨rfl, trivial⟩ trivial rfl ?_ | refine al_v (opx_assign (.sl _ _)) ⟨rfl, trivial⟩ trivial rfl ?_ | refine al_v (opx_assign (.own _)) ⟨rfl, trivial⟩ trivial rfl ?_)) | (refine is_pick ?_; refine al_v (opx_pick_t (.raw _) rfl) ⟨rfl, rfl, trivial⟩ trivial rfl ?_) | (refine is_bi ?_; refine al_v opx_len_sl ⟨rfl, trivial⟩ trivial rfl ?_) | (refine is_ia ?_; (first | refine al_v (opx_ia_sl2 i0 (by omega)) ⟨rfl, rfl, trivial⟩ trivial rfl ?_ | refine al_v (opx_ia_sl2 i1 (by omega)) ⟨rfl, rfl, trivial⟩ trivial rfl ?_ | refine al_v (opx_ia_sl2 i2 (by omega)) ⟨rfl, rfl, trivial⟩ trivial rfl ?_)) | (refine is_call ?_; (first | refine al_callF (by (repeat (first | exact .nil | refine .one rfl rfl ?_ | refine .froz rfl rfl ?_ | refine .rnil rfl ?_ | refine .agg rfl (by (repeat (first | exact .nil | refine .cons (.same rfl) ?_ | refine .cons (.froz rfl) ?_ | refine .cons (.rnil) ?_)); (first | done | fail)) ?_)); (first | done | fail)) rfl (hcs) rfl ?_ | refine al_callrv2 (by (repeat (first | exact .nil | refine .one rfl rfl ?_ | refine .froz rfl rfl ?_ | refine .rnil rfl ?_ | refine .agg rfl (by (repeat (first | exact .nil | refine .cons (.same rfl) ?_ | refine .cons (.froz rfl) ?_ | refine .cons (.rnil) ?_)); (first | done | fail)) ?_)); (first | done | fail)) rfl (c1) ?_ | refine al_callv2 (by (repeat (first | exact .nil | refine .one rfl rfl ?_ | refine .froz rfl rfl ?_ | refine .row rfl rfl ?_ | refine .rnil rfl ?_ | refine .agg rfl (by (repeat (first | exact .nil | refine .cons (.same rfl) ?_ | refine .cons (.froz rfl) ?_ | refine .cons (.rnil) ?_ | refine .cons (.row rfl rfl) ?_)); (first | done | fail)) ?_)); (first | done | fail)) rfl (c2) rfl ?_ | refine al_callv2 (by (repeat (first | exact .nil | refine .one rfl rfl ?_ | refine .froz rfl rfl ?_ | refine .row rfl rfl ?_ | refine .rnil rfl ?_ | refine .agg rfl (by (repeat (first | exact .nil | refine .cons (.same rfl) ?_ | refine .cons (.froz rfl) ?_ | refine .cons (.rnil) ?_ | refine .cons (.row rfl rfl) ?_)); (first | done | fail)) ?_)); (first | done | fail)) rfl (c3) rfl ?_)) | (refine is_st ?_; refine al_s (opx_sts_box (by rfl) (by rfl)) ⟨rfl, rfl, trivial⟩ ⟨rfl, trivial⟩ ?_) | refine al_v opx_not ⟨rfl, trivial⟩ trivial rfl ?_ | refine al_v (opx_extract _ rfl) ⟨rfl, trivial⟩ trivial rfl ?_ | refine al_v (opx_build2 (res := [_, _]) rfl) ⟨rfl, rfl, trivial⟩ trivial rfl ?_ | refine al_n opx_alloc trivial trivial rfl ?_ | refine al_nil ?_ | refine al_v opx_build0 trivial trivial rfl ?_)) | (refine is_ad ?_; refine al_v opx_build0 trivial trivial rfl ?_) | (refine is_aw ?_; (first | refine aw_seq ?_ | refine aw_region ?_ | refine aw_skip ?_ | (refine is_cond ?_; (first | refine aw_cond_t rfl rfl ?_ | refine aw_cond_f rfl rfl ?_)))) | refine thn_n ?_)
      refine aw_le (le_ownNil 2 2 104 rfl) ?_
      repeat' (first | (refine is_aw ?_; refine aw_ret ?_) | refine thn_r ?_)
      exact ret_row_cell_raw trivial rfl rfl rfl rfl (by kernel_rfl) rfl rfl rfl ⟨by rw [f1, f2]; rfl, by rw [f2]; rfl⟩
    | true =>
      cases g2 : numB b with
      | false =>
        obtain ⟨f1, f2⟩ := pl_f e (by rw [plW, g1, g2]; rfl)
        rw [g1] at c1
        rw [g2] at c2
        refine con_of_aw (vars := [.tmp 2, .cell 3 66, .tmp 4]) [(0, .r (rStr s))] [] 0 Tryz.func64 (by kernel_rfl) rfl Tryz.ntmps64 rfl (by decide) rfl rfl rfl rfl rfl ?_; intro B M w0 ρ0 Z0
        repeat' (first | (refine is_al ?_; (first | (refine is_gd ?_; (first | refine al_on rfl rfl rfl (by assumption) ?_ | refine al_off rfl rfl rfl (by assumption) rfl ?_)) | (refine is_move ?_; (first | refine al_v (opx_move (.raw _)) ⟨rfl, trivial⟩ trivial rfl ?_ | refine al_v (opx_move (.sl _ _)) ⟨rfl, trivial⟩ trivial rfl ?_ | refine al_v (opx_move (.tup _)) ⟨rfl, trivial⟩ trivial rfl ?_)) | (refine is_bin ?_; refine al_v opx_neq ⟨rfl, rfl, trivial⟩ trivial rfl ?_) | (refine is_load ?_; refine al_v opx_ld_imm ⟨rfl, trivial⟩ trivial rfl ?_) | (refine is_assign ?_; (first | refine al_v (opx_assign (.raw _)) ⟨rfl, trivial⟩ trivial rfl ?_ | refine al_v (opx_assign (.sl _ _)) ⟨rfl, trivial⟩ trivial rfl ?_ | refine al_v (opx_assign (.own _)) ⟨rfl, trivial⟩ trivial rfl ?_)) | (refine is_pick ?_; (first | refine al_v (opx_pick_t (.raw _) rfl) ⟨rfl, rfl, trivial⟩ trivial rfl ?_ | refine al_v (opx_pick_f (.raw _) rfl) ⟨rfl, rfl, trivial⟩ trivial rfl ?_)) | (refine is_bi ?_; refine al_v opx_len_sl ⟨rfl, trivial⟩ trivial rfl ?_) | (refine is_ia ?_; (first | refine al_v (opx_ia_sl2 i0 (by omega)) ⟨rfl, rfl, trivial⟩ trivial rfl ?_ | refine al_v (opx_ia_sl2 i1 (by omega)) ⟨rfl, rfl, trivial⟩ trivial rfl ?_ | refine al_v (opx_ia_sl2 i2 (by omega)) ⟨rfl, rfl, trivial⟩ trivial rfl ?_)) | (refine is_call ?_; (first | refine al_callF (by (repeat (first | exact .nil | refine .one rfl rfl ?_ | refine .froz rfl rfl ?_ | refine .rnil rfl ?_ | refine .agg rfl (by (repeat (first | exact .nil | refine .cons (.same rfl) ?_ | refine .cons (.froz rfl) ?_ | refine .cons (.rnil) ?_)); (first | done | fail)) ?_)); (first | done | fail)) rfl (hcs) rfl ?_ | refine al_callrv2 (by (repeat (first | exact .nil | refine .one rfl rfl ?_ | refine .froz rfl rfl ?_ | refine .rnil rfl ?_ | refine .agg rfl (by (repeat (first | exact .nil | refine .cons (.same rfl) ?_ | refine .cons (.froz rfl) ?_ | refine .cons (.rnil) ?_)); (first | done | fail)) ?_)); (first | done | fail)) rfl (c1) ?_ | refine al_callv2 (by (repeat (first | exact .nil | refine .one rfl rfl ?_ | refine .froz rfl rfl ?_ | refine .row rfl rfl ?_ | refine .rnil rfl ?_ | refine .agg rfl (by (repeat (first | exact .nil | refine .cons (.same rfl) ?_ | refine .cons (.froz rfl) ?_ | refine .cons (.rnil) ?_ | refine .cons (.row rfl rfl) ?_)); (first | done | fail)) ?_)); (first | done | fail)) rfl (c2) rfl ?_ | refine al_callv2 (by (repeat (first | exact .nil | refine .one rfl rfl ?_ | refine .froz rfl rfl ?_ | refine .row rfl rfl ?_ | refine .rnil rfl ?_ | refine .agg rfl (by (repeat (first | exact .nil | refine .cons (.same rfl) ?_ | refine .cons (.froz rfl) ?_ | refine .cons (.rnil) ?_ | refine .cons (.row rfl rfl) ?_)); (first | done | fail)) ?_)); (first | done | fail)) rfl (c3) rfl ?_)) | (refine is_st ?_; refine al_s (opx_sts_box (by rfl) (by rfl)) ⟨rfl, rfl, trivial⟩ ⟨rfl, trivial⟩ ?_) | refine al_v opx_not ⟨rfl, trivial⟩ trivial rfl ?_ | refine al_v (opx_extract _ rfl) ⟨rfl, trivial⟩ trivial rfl ?_ | refine al_v (opx_build2 (res := [_, _]) rfl) ⟨rfl, rfl, trivial⟩ trivial rfl ?_ | refine al_n opx_alloc trivial trivial rfl ?_ | refine al_nil ?_ | refine al_v opx_build0 trivial trivial rfl ?_)) | (refine is_ad ?_; refine al_v opx_build0 trivial trivial rfl ?_) | (refine is_aw ?_; (first | refine aw_seq ?_ | refine aw_region ?_ | refine aw_skip ?_ | (refine is_cond ?_; (first | refine aw_cond_t rfl rfl ?_ | refine aw_cond_f rfl rfl ?_)))) | refine thn_n ?_)
        refine aw_le (le_ownNil 2 2 104 rfl) ?_
        repeat' (first | (refine is_aw ?_; refine aw_ret ?_) | refine thn_r ?_)
        exact ret_row_cell_raw trivial rfl rfl rfl rfl (by kernel_rfl) rfl rfl rfl ⟨by rw [f1, f2]; rfl, by rw [f2]; rfl⟩
      | true =>
        cases g3 : numB c with
        | false =>
          obtain ⟨f1, f2⟩ := pl_f e (by rw [plW, g1, g2, g3]; rfl)
          rw [g1] at c1
          rw [g2] at c2
          rw [g3] at c3
          refine con_of_aw (vars := [.tmp 2, .cell 3 66, .tmp 4]) [(0, .r (rStr s))] [] 0 Tryz.func64 (by kernel_rfl) rfl Tryz.ntmps64 rfl (by decide) rfl rfl rfl rfl rfl ?_; intro B M w0 ρ0 Z0
          repeat' (first | (refine is_al ?_; (first | (refine is_gd ?_; (first | refine al_on rfl rfl rfl (by assumption) ?_ | refine al_off rfl rfl rfl (by assumption) rfl ?_)) | (refine is_move ?_; (first | refine al_v (opx_move (.raw _)) ⟨rfl, trivial⟩ trivial rfl ?_ | refine al_v (opx_move (.sl _ _)) ⟨rfl, trivial⟩ trivial rfl ?_ | refine al_v (opx_move (.tup _)) ⟨rfl, trivial⟩ trivial rfl ?_)) | (refine is_bin ?_; refine al_v opx_neq ⟨rfl, rfl, trivial⟩ trivial rfl ?_) | (refine is_load ?_; refine al_v opx_ld_imm ⟨rfl, trivial⟩ trivial rfl ?_) | (refine is_assign ?_; (first | refine al_v (opx_assign (.raw _)) ⟨rfl, trivial⟩ trivial rfl ?_ | refine al_v (opx_assign (.sl _ _)) ⟨rfl, trivial⟩ trivial rfl ?_ | refine al_v (opx_assign (.own _)) ⟨rfl, trivial⟩ trivial rfl ?_)) | (refine is_pick ?_; (first | refine al_v (opx_pick_t (.raw _) rfl) ⟨rfl, rfl, trivial⟩ trivial rfl ?_ | refine al_v (opx_pick_f (.raw _) rfl) ⟨rfl, rfl, trivial⟩ trivial rfl ?_)) | (refine is_bi ?_; refine al_v opx_len_sl ⟨rfl, trivial⟩ trivial rfl ?_) | (refine is_ia ?_; (first | refine al_v (opx_ia_sl2 i0 (by omega)) ⟨rfl, rfl, trivial⟩ trivial rfl ?_ | refine al_v (opx_ia_sl2 i1 (by omega)) ⟨rfl, rfl, trivial⟩ trivial rfl ?_ | refine al_v (opx_ia_sl2 i2 (by omega)) ⟨rfl, rfl, trivial⟩ trivial rfl ?_)) | (refine is_call ?_; (first | refine al_callF (by (repeat (first | exact .nil | refine .one rfl rfl ?_ | refine .froz rfl rfl ?_ | refine .rnil rfl ?_ | refine .agg rfl (by (repeat (first | exact .nil | refine .cons (.same rfl) ?_ | refine .cons (.froz rfl) ?_ | refine .cons (.rnil) ?_)); (first | done | fail)) ?_)); (first | done | fail)) rfl (hcs) rfl ?_ | refine al_callrv2 (by (repeat (first | exact .nil | refine .one rfl rfl ?_ | refine .froz rfl rfl ?_ | refine .rnil rfl ?_ | refine .agg rfl (by (repeat (first | exact .nil | refine .cons (.same rfl) ?_ | refine .cons (.froz rfl) ?_ | refine .cons (.rnil) ?_)); (first | done | fail)) ?_)); (first | done | fail)) rfl (c1) ?_ | refine al_callv2 (by (repeat (first | exact .nil | refine .one rfl rfl ?_ | refine .froz rfl rfl ?_ | refine .row rfl rfl ?_ | refine .rnil rfl ?_ | refine .agg rfl (by (repeat (first | exact .nil | refine .cons (.same rfl) ?_ | refine .cons (.froz rfl) ?_ | refine .cons (.rnil) ?_ | refine .cons (.row rfl rfl) ?_)); (first | done | fail)) ?_)); (first | done | fail)) rfl (c2) rfl ?_ | refine al_callv2 (by (repeat (first | exact .nil | refine .one rfl rfl ?_ | refine .froz rfl rfl ?_ | refine .row rfl rfl ?_ | refine .rnil rfl ?_ | refine .agg rfl (by (repeat (first | exact .nil | refine .cons (.same rfl) ?_ | refine .cons (.froz rfl) ?_ | refine .cons (.rnil) ?_ | refine .cons (.row rfl rfl) ?_)); (first | done | fail)) ?_)); (first | done | fail)) rfl (c3) rfl ?_)) | (refine is_st ?_; refine al_s (opx_sts_box (by rfl) (by rfl)) ⟨rfl, rfl, trivial⟩ ⟨rfl, trivial⟩ ?_) | refine al_v opx_not ⟨rfl, trivial⟩ trivial rfl ?_ | refine al_v (opx_extract _ rfl) ⟨rfl, trivial⟩ trivial rfl ?_ | refine al_v (opx_build2 (res := [_, _]) rfl) ⟨rfl, rfl, trivial⟩ trivial rfl ?_ | refine al_n opx_alloc trivial trivial rfl ?_ | refine al_nil ?_ | refine al_v opx_build0 trivial trivial rfl ?_)) | (refine is_ad ?_; refine al_v opx_build0 trivial trivial rfl ?_) | (refine is_aw ?_; (first | refine aw_seq ?_ | refine aw_region ?_ | refine aw_skip ?_ | (refine is_cond ?_; (first | refine aw_cond_t rfl rfl ?_ | refine aw_cond_f rfl rfl ?_)))) | refine thn_n ?_)
          refine aw_le (le_ownNil 2 2 104 rfl) ?_
          repeat' (first | (refine is_aw ?_; refine aw_ret ?_) | refine thn_r ?_)
          exact ret_row_cell_raw trivial rfl rfl rfl rfl (by kernel_rfl) rfl rfl rfl ⟨by rw [f1, f2]; rfl, by rw [f2]; rfl⟩
        | true =>
          cases g4 : ptB (numN c) (numN b) with
          | false =>
            obtain ⟨f1, f2⟩ := pl_f e (by rw [plW, g1, g2, g3, g4]; rfl)
            rw [g1] at c1
            rw [g2] at c2
            rw [g3] at c3
            rw [g4] at c4
            refine con_of_aw (vars := [.tmp 2, .cell 3 66, .tmp 4]) [(0, .r (rStr s))] [] 0 Tryz.func64 (by kernel_rfl) rfl Tryz.ntmps64 rfl (by decide) rfl rfl rfl rfl rfl ?_; intro B M w0 ρ0 Z0
            repeat' (first | (refine is_al ?_; (first | (refine is_gd ?_; refine al_on rfl rfl rfl (by assumption) ?_) | (refine is_move ?_; (first | refine al_v (opx_move (.raw _)) ⟨rfl, trivial⟩ trivial rfl ?_ | refine al_v (opx_move (.sl _ _)) ⟨rfl, trivial⟩ trivial rfl ?_ | refine al_v (opx_move (.tup _)) ⟨rfl, trivial⟩ trivial rfl ?_)) | (refine is_bin ?_; refine al_v opx_neq ⟨rfl, rfl, trivial⟩ trivial rfl ?_) | (refine is_load ?_; (first | refine al_v opx_ld_imm ⟨rfl, trivial⟩ trivial rfl ?_ | refine al_v opx_ld2_box ⟨rfl, trivial⟩ ⟨rfl, trivial⟩ rfl ?_)) | (refine is_assign ?_; (first | refine al_v (opx_assign (.raw _)) ⟨rfl, trivial⟩ trivial rfl ?_ | refine al_v (opx_assign (.sl _ _)) ⟨rfl, trivial⟩ trivial rfl ?_ | refine al_v (opx_assign (.own _)) ⟨rfl, trivial⟩ trivial rfl ?_)) | (refine is_pick ?_; refine al_v (opx_pick_f (.raw _) rfl) ⟨rfl, rfl, trivial⟩ trivial rfl ?_) | (refine is_bi ?_; refine al_v opx_len_sl ⟨rfl, trivial⟩ trivial rfl ?_) | (refine is_ia ?_; (first | refine al_v (opx_ia_sl2 i0 (by omega)) ⟨rfl, rfl, trivial⟩ trivial rfl ?_ | refine al_v (opx_ia_sl2 i1 (by omega)) ⟨rfl, rfl, trivial⟩ trivial rfl ?_ | refine al_v (opx_ia_sl2 i2 (by omega)) ⟨rfl, rfl, trivial⟩ trivial rfl ?_)) | (refine is_call ?_; (first | refine al_callF (by (repeat (first | exact .nil | refine .one rfl rfl ?_ | refine .froz rfl rfl ?_ | refine .rnil rfl ?_ | refine .agg rfl (by (repeat (first | exact .nil | refine .cons (.same rfl) ?_ | refine .cons (.froz rfl) ?_ | refine .cons (.rnil) ?_)); (first | done | fail)) ?_)); (first | done | fail)) rfl (hcs) rfl ?_ | refine al_callrv2 (by (repeat (first | exact .nil | refine .one rfl rfl ?_ | refine .froz rfl rfl ?_ | refine .rnil rfl ?_ | refine .agg rfl (by (repeat (first | exact .nil | refine .cons (.same rfl) ?_ | refine .cons (.froz rfl) ?_ | refine .cons (.rnil) ?_)); (first | done | fail)) ?_)); (first | done | fail)) rfl (c1) ?_ | refine al_callv2 (by (repeat (first | exact .nil | refine .one rfl rfl ?_ | refine .froz rfl rfl ?_ | refine .row rfl rfl ?_ | refine .rnil rfl ?_ | refine .agg rfl (by (repeat (first | exact .nil | refine .cons (.same rfl) ?_ | refine .cons (.froz rfl) ?_ | refine .cons (.rnil) ?_ | refine .cons (.row rfl rfl) ?_)); (first | done | fail)) ?_)); (first | done | fail)) rfl (c2) rfl ?_ | refine al_callv2 (by (repeat (first | exact .nil | refine .one rfl rfl ?_ | refine .froz rfl rfl ?_ | refine .row rfl rfl ?_ | refine .rnil rfl ?_ | refine .agg rfl (by (repeat (first | exact .nil | refine .cons (.same rfl) ?_ | refine .cons (.froz rfl) ?_ | refine .cons (.rnil) ?_ | refine .cons (.row rfl rfl) ?_)); (first | done | fail)) ?_)); (first | done | fail)) rfl (c3) rfl ?_ | refine al_callv2 (by (repeat (first | exact .nil | refine .one rfl rfl ?_ | refine .froz rfl rfl ?_ | refine .row rfl rfl ?_ | refine .rnil rfl ?_ | refine .agg rfl (by (repeat (first | exact .nil | refine .cons (.same rfl) ?_ | refine .cons (.froz rfl) ?_ | refine .cons (.rnil) ?_ | refine .cons (.row rfl rfl) ?_)); (first | done | fail)) ?_)); (first | done | fail)) rfl (c4) rfl ?_)) | (refine is_st ?_; refine al_s (opx_sts_box (by rfl) (by rfl)) ⟨rfl, rfl, trivial⟩ ⟨rfl, trivial⟩ ?_) | refine al_v opx_not ⟨rfl, trivial⟩ trivial rfl ?_ | refine al_v (opx_extract _ rfl) ⟨rfl, trivial⟩ trivial rfl ?_ | refine al_v (opx_build2 (res := [_, _]) rfl) ⟨rfl, rfl, trivial⟩ trivial rfl ?_ | refine al_n opx_alloc trivial trivial rfl ?_ | refine al_nil ?_ | refine al_v opx_build0 trivial trivial rfl ?_)) | (refine is_ad ?_; refine al_v opx_build0 trivial trivial rfl ?_) | (refine is_aw ?_; (first | refine aw_seq ?_ | refine aw_region ?_ | refine aw_skip ?_ | (refine is_cond ?_; (first | refine aw_cond_t rfl rfl ?_ | refine aw_cond_f rfl rfl ?_)))) | refine thn_n ?_)
            refine aw_le (le_ownNil 2 2 104 rfl) ?_
            repeat' (first | (refine is_aw ?_; refine aw_ret ?_) | refine thn_r ?_)
            exact ret_row_cell_raw trivial rfl rfl rfl rfl (by kernel_rfl) rfl rfl rfl ⟨by rw [f1, f2]; rfl, by rw [f2]; rfl⟩
          | true =>
            obtain ⟨f1, f2⟩ := pl_t e (by rw [plW, g1, g2, g3, g4]; rfl)
            rw [g1] at c1
            rw [g2] at c2
            rw [g3] at c3
            rw [g4] at c4
            refine con_of_aw (vars := [.tmp 2, .cell 3 66, .tmp 4]) [(0, .r (rStr s))] [] 0 Tryz.func64 (by kernel_rfl) rfl Tryz.ntmps64 rfl (by decide) rfl rfl rfl rfl rfl ?_; intro B M w0 ρ0 Z0
            repeat' (first | (refine is_al ?_; (first | (refine is_gd ?_; refine al_on rfl rfl rfl (by assumption) ?_) | (refine is_move ?_; (first | refine al_v (opx_move (.raw _)) ⟨rfl, trivial⟩ trivial rfl ?_ | refine al_v (opx_move (.sl _ _)) ⟨rfl, trivial⟩ trivial rfl ?_ | refine al_v (opx_move (.tup _)) ⟨rfl, trivial⟩ trivial rfl ?_)) | (refine is_bin ?_; refine al_v opx_neq ⟨rfl, rfl, trivial⟩ trivial rfl ?_) | (refine is_load ?_; (first | refine al_v opx_ld_imm ⟨rfl, trivial⟩ trivial rfl ?_ | refine al_v opx_ld2_box ⟨rfl, trivial⟩ ⟨rfl, trivial⟩ rfl ?_)) | (refine is_assign ?_; (first | refine al_v (opx_assign (.raw _)) ⟨rfl, trivial⟩ trivial rfl ?_ | refine al_v (opx_assign (.sl _ _)) ⟨rfl, trivial⟩ trivial rfl ?_ | refine al_v (opx_assign (.own _)) ⟨rfl, trivial⟩ trivial rfl ?_)) | (refine is_pick ?_; refine al_v (opx_pick_f (.raw _) rfl) ⟨rfl, rfl, trivial⟩ trivial rfl ?_) | (refine is_bi ?_; refine al_v opx_len_sl ⟨rfl, trivial⟩ trivial rfl ?_) | (refine is_ia ?_; (first | refine al_v (opx_ia_sl2 i0 (by omega)) ⟨rfl, rfl, trivial⟩ trivial rfl ?_ | refine al_v (opx_ia_sl2 i1 (by omega)) ⟨rfl, rfl, trivial⟩ trivial rfl ?_ | refine al_v (opx_ia_sl2 i2 (by omega)) ⟨rfl, rfl, trivial⟩ trivial rfl ?_)) | (refine is_call ?_; (first | refine al_callF (by (repeat (first | exact .nil | refine .one rfl rfl ?_ | refine .froz rfl rfl ?_ | refine .rnil rfl ?_ | refine .agg rfl (by (repeat (first | exact .nil | refine .cons (.same rfl) ?_ | refine .cons (.froz rfl) ?_ | refine .cons (.rnil) ?_)); (first | done | fail)) ?_)); (first | done | fail)) rfl (hcs) rfl ?_ | refine al_callrv2 (by (repeat (first | exact .nil | refine .one rfl rfl ?_ | refine .froz rfl rfl ?_ | refine .rnil rfl ?_ | refine .agg rfl (by (repeat (first | exact .nil | refine .cons (.same rfl) ?_ | refine .cons (.froz rfl) ?_ | refine .cons (.rnil) ?_)); (first | done | fail)) ?_)); (first | done | fail)) rfl (c1) ?_ | refine al_callv2 (by (repeat (first | exact .nil | refine .one rfl rfl ?_ | refine .froz rfl rfl ?_ | refine .row rfl rfl ?_ | refine .rnil rfl ?_ | refine .agg rfl (by (repeat (first | exact .nil | refine .cons (.same rfl) ?_ | refine .cons (.froz rfl) ?_ | refine .cons (.rnil) ?_ | refine .cons (.row rfl rfl) ?_)); (first | done | fail)) ?_)); (first | done | fail)) rfl (c2) rfl ?_ | refine al_callv2 (by (repeat (first | exact .nil | refine .one rfl rfl ?_ | refine .froz rfl rfl ?_ | refine .row rfl rfl ?_ | refine .rnil rfl ?_ | refine .agg rfl (by (repeat (first | exact .nil | refine .cons (.same rfl) ?_ | refine .cons (.froz rfl) ?_ | refine .cons (.rnil) ?_ | refine .cons (.row rfl rfl) ?_)); (first | done | fail)) ?_)); (first | done | fail)) rfl (c3) rfl ?_ | refine al_callv2 (by (repeat (first | exact .nil | refine .one rfl rfl ?_ | refine .froz rfl rfl ?_ | refine .row rfl rfl ?_ | refine .rnil rfl ?_ | refine .agg rfl (by (repeat (first | exact .nil | refine .cons (.same rfl) ?_ | refine .cons (.froz rfl) ?_ | refine .cons (.rnil) ?_ | refine .cons (.row rfl rfl) ?_)); (first | done | fail)) ?_)); (first | done | fail)) rfl (c4) rfl ?_)) | (refine is_st ?_; refine al_s (opx_sts_box (by rfl) (by rfl)) ⟨rfl, rfl, trivial⟩ ⟨rfl, trivial⟩ ?_) | refine al_v opx_not ⟨rfl, trivial⟩ trivial rfl ?_ | refine al_v (opx_extract _ rfl) ⟨rfl, trivial⟩ trivial rfl ?_ | refine al_v (opx_build2 (res := [_, _]) rfl) ⟨rfl, rfl, trivial⟩ trivial rfl ?_ | refine al_n opx_alloc trivial trivial rfl ?_ | refine al_nil ?_)) | (refine is_ad ?_; (first | (refine isd_move ?_; refine ad_v (opx_move (.own _)) ⟨rfl, trivial⟩ trivial rfl ?_) | (refine isd_load ?_; refine ad_v opx_ld2_box ⟨rfl, trivial⟩ ⟨rfl, trivial⟩ rfl ?_) | (refine isd_assign ?_; (first | refine ad_v (opx_assign (.raw _)) ⟨rfl, trivial⟩ trivial rfl ?_ | refine ad_v (opx_assign (.own _)) ⟨rfl, trivial⟩ trivial rfl ?_)) | (refine isd_st ?_; refine ad_s (opx_sts_box (by rfl) (by rfl)) ⟨rfl, rfl, trivial⟩ ⟨rfl, trivial⟩ ?_) | refine ad_nil (by kernel_rfl) ?_)) | (refine is_aw ?_; (first | refine aw_seq ?_ | refine aw_region ?_ | refine aw_skip ?_ | refine aw_ret ?_ | (refine is_cond ?_; refine aw_cond_f rfl rfl ?_) | refine aw_draw mixed ?_)))
            exact ret_row_cell_raw trivial rfl rfl rfl rfl (by kernel_rfl) rfl rfl rfl ⟨by rw [f1, f2]; rfl, by rw [f2]⟩
  · obtain ⟨f1, f2⟩ := pl_none (pl_other h3)
    have d3 : (!decide (((stRs (spl 32 s)).length : Int) = 3)) = true := by rw [decide_eq_false (by omega)]; rfl
    refine con_of_aw (vars := [.tmp 2, .cell 3 66, .tmp 4]) [(0, .r (rStr s))] [] 0 Tryz.func64 (by kernel_rfl) rfl Tryz.ntmps64 rfl (by decide) rfl rfl rfl rfl rfl ?_; intro B M w0 ρ0 Z0
    repeat' (first | (refine is_al ?_; (first | (refine is_move ?_; (first | refine al_v (opx_move (.raw _)) ⟨rfl, trivial⟩ trivial rfl ?_ | refine al_v (opx_move (.sl _ _)) ⟨rfl, trivial⟩ trivial rfl ?_)) | (refine is_bin ?_; refine al_v opx_neq ⟨rfl, rfl, trivial⟩ trivial rfl ?_) | (refine is_assign ?_; (first | refine al_v (opx_assign (.raw _)) ⟨rfl, trivial⟩ trivial rfl ?_ | refine al_v (opx_assign (.sl _ _)) ⟨rfl, trivial⟩ trivial rfl ?_)) | (refine is_bi ?_; refine al_v opx_len_sl ⟨rfl, trivial⟩ trivial rfl ?_) | (refine is_call ?_; refine al_callF (by (repeat (first | exact .nil | refine .one rfl rfl ?_ | refine .froz rfl rfl ?_ | refine .rnil rfl ?_ | refine .agg rfl (by (repeat (first | exact .nil | refine .cons (.same rfl) ?_ | refine .cons (.froz rfl) ?_ | refine .cons (.rnil) ?_)); (first | done | fail)) ?_)); (first | done | fail)) rfl (hcs) rfl ?_) | (refine is_st ?_; refine al_s (opx_sts_box (by rfl) (by rfl)) ⟨rfl, rfl, trivial⟩ ⟨rfl, trivial⟩ ?_) | refine al_n opx_alloc trivial trivial rfl ?_ | refine al_nil ?_ | refine al_v opx_build0 trivial trivial rfl ?_)) | (refine is_ad ?_; refine al_v opx_build0 trivial trivial rfl ?_) | (refine is_aw ?_; (first | refine aw_seq ?_ | refine aw_region ?_ | (refine is_cond ?_; refine aw_cond_t rfl (by assumption) ?_))) | refine thn_n ?_)
    refine aw_le (le_ownNil 2 2 104 rfl) ?_
    repeat' (first | (refine is_aw ?_; refine aw_ret ?_) | refine thn_r ?_)
    exact ret_row_cell_raw trivial rfl rfl rfl rfl (by kernel_rfl) rfl rfl rfl ⟨by rw [f1, f2]; rfl, by rw [f2]; rfl⟩
theorem c_sParseLine' (s : Str) (hs : s.length ≤ 100000000) : Con Tryz.prog 64 [rStr s] [] (fun rs all => rs = [slL (plG s).1, ptA (plG s).2.1 (plG s).2.2, rB (plB s)] ∧ all = []) :=
  (c_sParseLine s hs).froz fun rs all ⟨h1, h2⟩ => by subst h1 h2; exact ⟨⟨rfl, rfl⟩, rfl⟩
end Go.Proofs.YtfoecgfboicphaaGreatDoor
/-
  Groups of samples: the plain law.
-/
namespace Go.Proofs.YtfoecgfboicphaaGreatDoor
set_option linter.unusedVariables false
set_option linter.unusedSimpArgs false

abbrev Sm := List Lb × Int
theorem bl_irr : ∀ x : Str, Op.bytesLess x x = false
  | [] => rfl
  | a :: x => by
    have := bl_irr x
    simp only [Op.bytesLess, this, Bool.and_false, Bool.or_false, decide_eq_false_iff_not]
    exact Nat.lt_irrefl _
theorem bl_trans : ∀ {x y z : Str}, Op.bytesLess x y = true → Op.bytesLess y z = true → Op.bytesLess x z = true
  | [], [], _, h, _ => by cases h
  | _ :: _, [], _, h, _ => by cases h
  | _, _ :: _, [], _, h => by cases h
  | [], _ :: _, _ :: _, _, _ => rfl
  | a :: x, b :: y, c :: z, h1, h2 => by
    have ih := @bl_trans x y z
    simp only [Op.bytesLess, Bool.or_eq_true, Bool.and_eq_true, decide_eq_true_eq, beq_iff_eq, UInt8.lt_iff_toNat_lt] at h1 h2 ⊢
    rcases h1 with h1 | ⟨rfl, h1⟩
    · rcases h2 with h2 | ⟨rfl, h2⟩
      · exact .inl (Nat.lt_trans h1 h2)
      · exact .inl h1
    · rcases h2 with h2 | ⟨rfl, h2⟩
      · exact .inl h2
      · exact .inr ⟨rfl, ih h1 h2⟩
theorem bl_tri : ∀ {x y : Str}, Op.bytesLess x y = false → Op.bytesLess y x = false → x = y
  | [], [], _, _ => rfl
  | [], _ :: _, h, _ => by cases h
  | _ :: _, [], _, h => by cases h
  | a :: x, b :: y, h1, h2 => by
    have ih := @bl_tri x y
    simp only [Op.bytesLess, Bool.or_eq_false_iff, Bool.and_eq_false_iff, decide_eq_false_iff_not, beq_eq_false_iff_ne, UInt8.lt_iff_toNat_lt] at h1 h2
    have e : a = b := UInt8.toNat_inj.1 (by omega)
    subst e
    rcases h1.2 with h | h
    · exact absurd rfl h
    · rcases h2.2 with h' | h'
      · exact absurd rfl h'
      · rw [ih h h']
theorem sle_f {x y : Str} : sle x y = false ↔ Op.bytesLess y x = true := by
  unfold sle
  constructor
  · intro h
    simp only [Bool.or_eq_false_iff, beq_eq_false_iff_ne] at h
    cases hb : Op.bytesLess y x with
    | true => rfl
    | false => exact absurd (bl_tri h.1 hb) h.2
  · intro h
    simp only [Bool.or_eq_false_iff, beq_eq_false_iff_ne]
    refine ⟨?_, ?_⟩
    · cases hb : Op.bytesLess x y with
      | false => rfl
      | true => have := bl_trans h hb; rw [bl_irr] at this; cases this
    · rintro rfl
      rw [bl_irr] at h; cases h
def cmpL : List Lb → List Lb → Int
  | x :: a, y :: b => if Op.bytesLess x.1 y.1 = true then -1 else if sle x.1 y.1 = false then 1 else if Op.bytesLess x.2 y.2 = true then -1 else if sle x.2 y.2 = false then 1 else cmpL a b
  | a, b => (if b.length < a.length then 1 else 0) - (if a.length < b.length then 1 else 0)
theorem cmp_eq {x y : Str} (h1 : ¬ Op.bytesLess x y = true) (h2 : ¬ sle x y = false) : x = y := by
  rw [sle_f] at h2
  exact bl_tri (by simpa using h1) (by simpa using h2)
theorem cmpL_self : ∀ l : List Lb, cmpL l l = 0
  | [] => rfl
  | x :: l => by
    have h1 := bl_irr x.1
    have h2 := bl_irr x.2
    have h3 : sle x.1 x.1 = true := by simp [sle]
    have h4 : sle x.2 x.2 = true := by simp [sle]
    simp [cmpL, h1, h2, h3, h4, cmpL_self l]
theorem cmpL_zero : ∀ {a b : List Lb}, cmpL a b = 0 → a = b
  | [], [], _ => rfl
  | [], y :: b, h => by simp [cmpL] at h
  | x :: a, [], h => by simp [cmpL] at h
  | x :: a, y :: b, h => by
    simp only [cmpL] at h
    split at h
    · omega
    · rename_i h1
      split at h
      · omega
      · rename_i h2
        split at h
        · omega
        · rename_i h3
          split at h
          · omega
          · rename_i h4
            rw [cmpL_zero h]
            exact congrArg (· :: b) (Prod.ext (cmp_eq h1 h2) (cmp_eq h3 h4))
theorem cmpL_iff {a b : List Lb} : cmpL a b = 0 ↔ a = b := ⟨cmpL_zero, fun h => by rw [h]; exact cmpL_self b⟩
def pos (l : List Sm) (k : List Lb) : Nat := l.findIdx fun s => decide (s.1 = k)
def foldV (kind : Int) (a v : Int) : Int := if kind = 0 then a + v else if kind = 1 then min a v else if kind = 2 then max a v else a + 1
def fstV (kind : Int) (v : Int) : Int := if kind = 3 then 1 else v
def upd (kind : Int) (out : List Sm) (k : List Lb) (v : Int) : List Sm :=
  match out[pos out k]? with
  | some t => out.set (pos out k) (k, foldV kind t.2 v)
  | none => out ++ [(k, fstV kind v)]
end Go.Proofs.YtfoecgfboicphaaGreatDoor
/-
  Maps from texts to numbers that a call makes: made, asked, stored into.
-/
namespace Go.Proofs.YtfoecgfboicphaaGreatDoor
open Go.RowKit Go.MapKept
set_option linter.unusedVariables false
set_option linter.unusedSimpArgs false

def mpI (ks : List Str) (s : Str) : Nat := ks.findIdx fun x => decide (x = s)
/-- What a type of map is. -/
class MpT (P : Program) (T : TypeId) (kt et : outParam TypeId) : Prop where
  ok : P.underlying T = some (.map kt et)
  key : P.underlying kt = some .string
  zero : ∀ w : World, (zeroValue et).run P w = .ok (.int .i64 0) w
end Go.Proofs.YtfoecgfboicphaaGreatDoor
