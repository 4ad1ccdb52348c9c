/-
  Values in order: the walks.
-/
import Derived.Test.YtgakfhilconceaaShelfS
import Derived.Test.YtgakfhilconceaaW7
import Derived.Test.YtgakfhilconceaaEng22
namespace Go.Proofs.Ytgakfhilconceaa
open Go.RowKit
set_option linter.unusedVariables false
set_option linter.unusedSimpArgs false
attribute [local irreducible] AL AW OpX Le AD

/-! ### sorting what is the call's own -/
def sortI (ns : List Int) : List Int := ns.mergeSort fun x y => decide (x ≤ y)
theorem sortI_len {ns : List Int} : (sortI ns).length = ns.length := (List.mergeSort_perm _ _).length_eq
theorem inRs_vals {Z : Nat → Prop} {w : World} : ∀ {ns : List Int} {us : List Value}, DL Z w (inRs ns).flatten us → us = ns.map fun n => Value.int .i64 n
  | [], [], _ => rfl
  | [], _ :: _, h => h.elim
  | b :: bs, u :: us, h => by
    have h1 : DC Z w (.raw (.int .i64 b)) u := h.1
    have h2 := inRs_vals (ns := bs) (us := us) h.2
    cases h1
    rw [h2]; rfl
  | _ :: _, [], h => h.elim
theorem inRs_mk {Z : Nat → Prop} {w : World} : ∀ {ns : List Int}, DL Z w (inRs ns).flatten (ns.map fun n => Value.int .i64 n)
  | [] => trivial
  | b :: bs => ⟨.raw _ rfl, inRs_mk (ns := bs)⟩
theorem grow_heap {w : World} {n g off : Nat} {d : Array Int} {os : Array Obj} {k : Nat} (hk : k < w.heap.size) :
    (Go.Sort.grow (Go.Sort.putRow (Value.int .i64) (Go.Sort.ahead w n) g off d) os).heap[k]? = if g = k then (w.heap[k]?).map (Go.Sort.onCells (Go.Sort.putCells (Value.int .i64) off d)) else w.heap[k]? := by
  simp only [Go.Sort.grow, Go.Sort.putRow, Go.Sort.mapBlock, Go.Sort.ahead]
  rw [Array.getElem?_append_left (by simpa using hk), Array.getElem?_modify]
theorem c_Sort (ns : List Int) (e : TypeId) (h0 : ns ≠ []) (hl : ns.length ≤ 1000000) : Con Try.prog 54 [.one (.own 0)] [.row 1 e (inRs ns)] (fun rs all => rs = [] ∧ all = [.row 1 e (inRs (sortI ns))]) := by
  refine ⟨by kernel_rfl, fun w ρ Z vs he => ?_⟩
  match vs, he.args with
  | [v], ha =>
    have hv : v = ρ 0 := ha.1.1
    subst hv
    have ho := he.objs 0
    have ho2 : _ ∨ _ := ho.2
    rcases ho2 with ⟨_, h2⟩ | ⟨g, off, cap, cur, us, h1, h2, h3, h4, h5, h6, h7⟩
    · exact absurd (by simpa [inRs] using h2) h0
    have hus := inRs_vals h6
    subst hus
    rw [inRs_len] at h1 h3
    have hgl : g < w.heap.size := (Array.getElem?_eq_some_iff.1 h2).1
    have hH : Go.Sort.Holds (Value.int .i64) w g off ns.toArray := fun j hj => by
      have hj' : j < ns.length := by simpa using hj
      have hc := h7 j (Value.int .i64 ns[j]) (by rw [List.getElem?_map, List.getElem?_eq_getElem hj']; rfl)
      refine ⟨?_, ?_⟩
      · rw [World.cell?, h2]
        rw [getElem!_pos ns.toArray j (by simpa using hj')]
        simpa using hc
      · simp [World.frozen?, h2]
    rw [h1]
    have hlt : ns.length < 4611686018427387904 := by omega
    refine (slices_Sort_int g off cap ns w hH hgl hlt).mono ?_
    rintro e' w' ⟨rfl, n, os, rfl⟩
    have hsz : (Go.Sort.grow (Go.Sort.putRow (Value.int .i64) (Go.Sort.ahead w n) g off (sortI ns).toArray) os).heap.size = w.heap.size + os.size := by
      simp [Go.Sort.grow, Go.Sort.putRow, Go.Sort.mapBlock, Go.Sort.ahead]
    refine ⟨[], [.row 1 e (inRs (sortI ns))], [], ρ, Z, ⟨rfl, rfl⟩, Nat.le_refl _, rfl, trivial, fun i => ?_, fun i _ => rfl, fun i j g' hi hj _ _ => ?_, fun i g' hi hg => ?_, fun g' h => h, fun g' h => .inl h, fun g' h => ?_, ⟨rfl, rfl⟩, rfl, rfl, rfl, ?_, fun g' hg hn => ?_⟩
    · match i with
      | i + 1 => exact trivial
      | 0 =>
        refine ⟨fun r hr => ?_, .inr ⟨g, off, cap, Go.Sort.putCells (Value.int .i64) off (sortI ns).toArray cur, (sortI ns).map fun n => Value.int .i64 n, ?_, ?_, ?_, h4, ?_, inRs_mk, fun k u hu => ?_⟩⟩
        · obtain ⟨x, _, rfl⟩ := List.mem_map.1 hr; rfl
        · rw [inRs_len, sortI_len]; exact h1
        · show (Go.Sort.grow (Go.Sort.putRow (Value.int .i64) (Go.Sort.ahead w n) g off (sortI ns).toArray) os).heap[g]? = _
          rw [grow_heap hgl, if_pos rfl, h2]; rfl
        · rw [inRs_len, sortI_len]; exact h3
        · simpa [Go.Sort.putCells] using h5
        · rw [List.getElem?_map] at hu
          obtain ⟨x, hx, rfl⟩ := Option.map_eq_some_iff.1 hu
          obtain ⟨hk, rfl⟩ := List.getElem?_eq_some_iff.1 hx
          have hk' : k < ns.length := by rw [← sortI_len]; exact hk
          have hcur : off + k < cur.size := by omega
          simp only [Go.Sort.putCells, Array.getElem?_mapIdx, Array.getElem?_eq_getElem hcur, Option.map_some]
          rw [if_pos ⟨by omega, by simp; omega⟩]
          simp [show off + k - off = k by omega, hk]
    · match i, j with
      | 0, 0 => rfl
      | i + 1, _ => cases hi
      | 0, j + 1 => cases hj
    · match i with
      | i + 1 => cases hi
      | 0 => exact ⟨he.nz 0 g' rfl hg, .inr ⟨0, rfl, hg⟩⟩
    · show g' < (Go.Sort.grow (Go.Sort.putRow (Value.int .i64) (Go.Sort.ahead w n) g off (sortI ns).toArray) os).heap.size
      rw [hsz]; have := he.zlt g' h; omega
    · show _ ≤ (Go.Sort.grow (Go.Sort.putRow (Value.int .i64) (Go.Sort.ahead w n) g off (sortI ns).toArray) os).heap.size
      rw [hsz]; omega
    · show (Go.Sort.grow (Go.Sort.putRow (Value.int .i64) (Go.Sort.ahead w n) g off (sortI ns).toArray) os).heap[g']? = _
      rw [grow_heap hg, if_neg]
      rintro rfl
      exact hn ⟨0, rfl, by rw [h1]; rfl⟩
section
variable {P : Program} {ops : Array Oper} {cx : Cx} {Q : APost} {rest : List Oper} {l : SL} {m : OL} {n : Nat}
variable {d : Nat} {ty : TypeId} {pos : String} {af : Array Edge} {f : FuncId} {xs : List Operand} {ats : Array TypeId} {args : List AR}
theorem al_mark0 {wd : Nat} {e : TypeId} {rows rows' : List (List CV)} (t : Nat) (hm : lk .gone m t = .row wd e rows) (ht : Nat.blt t n = true) (ha : Args (lk .dead l) (lk .gone m) (cpi [t] n) false xs args) (hd : Nat.blt d cx.N = true)
    (hc : Con P f args [.row wd e rows] (fun rs all => rs = [] ∧ all = [.row wd e rows'])) (k : AL P ops cx Q rest ((d, .tup []) :: l) ((t, .row wd e rows') :: m) n) :
    AL P ops cx Q (⟨some d, .call { callee := .value (.func f), args := xs.toArray, argTypes := ats }, ty, pos, af, none⟩ :: rest) l m n :=
  al_call_m [t] hc (by simp [nodupB, ht]) ⟨hm, trivial⟩ ha hd fun rs all _ ⟨h1, h2⟩ => by
    subst h1 h2
    exact k
end
/-! ### the value at a place -/
theorem vals_take {ps : List Pt} {k : Nat} {p : Pt} (h : ps[k]? = some p) : (ps.take (k + 1)).map (·.2) = (ps.take k).map (·.2) ++ [p.2] := by
  rw [List.take_add_one, h, List.map_append]; rfl
theorem c_valuesOf (ps : List Pt) (hL : ps.length ≤ 1000000) : Con Try.prog 53 [slP ps] [] (fun rs all => rs = [.one (.own 0)] ∧ all = [.row 1 3 (inRs (ps.map (·.2)))]) := by
  have hlen := ptRs_len (ps := ps)
  refine con_of_aw (vars := [.tmp 2]) [(0, .r (slP ps))] [] 0 Try.func53 (by kernel_rfl) rfl Try.ntmps53 rfl (by decide) rfl rfl rfl rfl rfl ?_
  intro B M w0 ρ0 Z0
  repeat' (first | (refine is_al ?_; (first | (refine is_move ?_; (first | refine al_v (opx_move (.raw _)) ⟨rfl, trivial⟩ trivial rfl ?_ | refine al_v (opx_move (.sl _ _)) ⟨rfl, trivial⟩ trivial rfl ?_)) | (refine is_assign ?_; (first | refine al_v (opx_assign (.raw _)) ⟨rfl, trivial⟩ trivial rfl ?_ | refine al_v (opx_assign (.own _)) ⟨rfl, trivial⟩ trivial rfl ?_)) | (refine is_bi ?_; refine al_v opx_len_sl ⟨rfl, trivial⟩ trivial rfl ?_) | refine al_mk0 rfl rfl rfl rfl (by omega) ?_ | refine al_nil ?_)) | (refine is_aw ?_; (first | refine aw_seq ?_ | refine aw_region ?_ | refine aw_block ?_)))
  refine aw_loop (γ := Nat) (fun k => [(3, .own 0), (9, .r (slP ps)), (10, .i ((ptRs ps).length : Int)), (11, .i (k : Int))]) (fun k => [(0, .row 1 3 (inRs ((ps.take k).map (·.2))))]) (fun _ => 1)
    (fun k => k ≤ ps.length) (fun k => ps.length - k) 0 (Nat.zero_le _) (le_mk [0] rfl rfl rfl rfl ⟨rfl, rfl, rfl, rfl, trivial⟩ ⟨rfl, trivial⟩) ?_
  intro k hk
  have hkl : ((ps.take k).map (·.2)).length ≤ 1000000 := by rw [List.length_map, List.length_take]; omega
  rcases Nat.lt_or_ge k ps.length with hlt | hge
  · have hc : decide ((k : Int) < ((ptRs ps).length : Int)) = true := decide_eq_true (by omega)
    obtain ⟨p, hp⟩ : ∃ p, ps[k]? = some p := ⟨_, List.getElem?_eq_getElem hlt⟩
    have hpr := ptRs_at hp
    have hs := vals_take hp
    repeat' (first | (refine is_al ?_; (first | (refine is_move ?_; (first | refine al_v (opx_move (.raw _)) ⟨rfl, trivial⟩ trivial rfl ?_ | refine al_v (opx_move (.own _)) ⟨rfl, trivial⟩ trivial rfl ?_)) | (refine is_bin ?_; (first | refine al_v opx_lss ⟨rfl, rfl, trivial⟩ trivial rfl ?_ | refine al_v (opx_add (by unfold InR; omega)) ⟨rfl, rfl, trivial⟩ trivial rfl ?_)) | (refine is_load ?_; (first | refine al_v opx_ld2_imm ⟨rfl, trivial⟩ trivial rfl ?_ | refine al_v (opx_ld_box rfl) ⟨rfl, trivial⟩ ⟨rfl, trivial⟩ rfl ?_)) | (refine is_fa ?_; refine al_v opx_fa_ref ⟨rfl, trivial⟩ trivial rfl ?_) | (refine is_assign ?_; refine al_v (opx_assign (.own _)) ⟨rfl, trivial⟩ trivial rfl ?_) | (refine is_ia ?_; refine al_v (opx_ia_sl2 hpr (by omega)) ⟨rfl, rfl, trivial⟩ trivial rfl ?_) | (refine is_st ?_; refine al_s (opx_sts_box (by rfl) (by rfl)) ⟨rfl, rfl, trivial⟩ ⟨rfl, trivial⟩ ?_) | (refine is_bs ?_; refine al_pushI ⟨rfl, trivial⟩ rfl rfl rfl rfl rfl (by omega) ?_) | refine al_n opx_alloc trivial trivial rfl ?_ | refine al_nil ?_)) | (refine is_aw ?_; (first | refine aw_seq ?_ | refine aw_region ?_ | refine aw_skip ?_ | refine aw_block ?_ | (refine is_cond ?_; refine aw_cond_t rfl (by assumption) ?_))) | refine thn_n ?_)
    exact ⟨k + 1, hlt, by omega, le_mk [_] rfl rfl rfl rfl ⟨rfl, rfl, rfl, rfl, trivial⟩ ⟨by rw [hs]; rfl, trivial⟩⟩
  · have hc : decide ((k : Int) < ((ptRs ps).length : Int)) = false := decide_eq_false (by omega)
    rw [List.take_of_length_le hge]
    repeat' (first | (refine is_al ?_; (first | (refine is_move ?_; refine al_v (opx_move (.own _)) ⟨rfl, trivial⟩ trivial rfl ?_) | (refine is_bin ?_; refine al_v opx_lss ⟨rfl, rfl, trivial⟩ trivial rfl ?_) | (refine is_assign ?_; refine al_v (opx_assign (.own _)) ⟨rfl, trivial⟩ trivial rfl ?_) | refine al_nil ?_)) | (refine is_aw ?_; (first | refine aw_seq ?_ | refine aw_region ?_ | refine aw_ret ?_ | refine aw_exit ?_ | (refine is_cond ?_; refine aw_cond_f rfl (by assumption) ?_))))
    exact ret_row trivial rfl rfl ⟨rfl, rfl⟩
/-- The value at a place in order. -/
def qnt (ps : List Pt) (pl : Int) : Int := (sortI (ps.map (·.2))).getD ((pl * ((ps.length : Int) - 1) + 99) / 100).toNat 0
theorem c_QuantileOver (ps : List Pt) (pl : Int) (hv : VS ps) (h0 : ps ≠ []) (hp : pl = 0 ∨ pl = 100) : Con Try.prog 33 [slP ps, rI 0, rI 1001, rI pl] [] (fun rs all => rs = [rI (qnt ps pl), rB true] ∧ all = []) := by
  have hall : rngR ps 0 1001 = ps := by
    have e : vrB ps 0 1001 = true := by rw [vrB, vsB_t hv]; rfl
    rw [rngR, if_pos e, rng]
    refine List.filter_eq_self.2 fun p hp => ?_
    have := hv.ok p hp
    unfold okPt at this
    exact decide_eq_true (by omega)
  have hr := c_RangeOf' ps 0 1001
  rw [hall] at hr
  have h16 := hv.1
  have hlen := ptRs_len (ps := ps)
  have hpos : 0 < ps.length := List.length_pos_iff.2 h0
  have hml : (ps.map (·.2)).length = ps.length := List.length_map _
  have hsl := sortI_len (ns := ps.map (·.2))
  have hir := inRs_len (ns := sortI (ps.map (·.2)))
  obtain ⟨k, hk⟩ : ∃ k : Nat, (pl * ((ps.length : Int) - 1) + 99) / 100 = (k : Int) := ⟨((pl * ((ps.length : Int) - 1) + 99) / 100).toNat, by rcases hp with rfl | rfl <;> omega⟩
  have hkl : k < ps.length := by rcases hp with rfl | rfl <;> omega
  obtain ⟨x, hx⟩ : ∃ x, (sortI (ps.map (·.2)))[k]? = some x := ⟨_, List.getElem?_eq_getElem (by omega)⟩
  have hxr := inRs_at hx
  have hq : qnt ps pl = x := by rw [qnt, hk, Int.toNat_natCast, List.getD, hx]; rfl
  have g0 : decide (pl < 0) = false := decide_eq_false (by omega)
  have g1 : decide (100 < pl) = false := decide_eq_false (by omega)
  have hpb : 0 ≤ pl * ((ps.length : Int) - 1) ∧ pl * ((ps.length : Int) - 1) ≤ 2000 := by rcases hp with rfl | rfl <;> omega
  have g2 : decide (((ptRs ps).length : Int) = 0) = false := decide_eq_false (by omega)
  have hne : ps.map (·.2) ≠ [] := by simpa using h0
  rw [← hml, ← hsl, ← hir] at hk hpb
  have hkr : k < (inRs (sortI (ps.map (·.2)))).length := by omega
  refine con_of_aw (vars := [.tmp 8, .tmp 9]) [(0, .r (slP ps)), (1, .r (rI 0)), (2, .r (rI 1001)), (3, .r (rI pl))] [] 0 Try.func33 (by kernel_rfl) rfl Try.ntmps33 rfl (by decide) rfl rfl rfl rfl rfl ?_
  intro B M w0 ρ0 Z0
  repeat' (first | (refine is_al ?_; (first | (refine is_gd ?_; refine al_on rfl rfl rfl (by assumption) ?_) | (refine is_move ?_; (first | refine al_v (opx_move (.raw _)) ⟨rfl, trivial⟩ trivial rfl ?_ | refine al_v (opx_move (.sl _ _)) ⟨rfl, trivial⟩ trivial rfl ?_ | refine al_v (opx_move (.own _)) ⟨rfl, trivial⟩ trivial rfl ?_)) | (refine is_bin ?_; (first | refine al_v opx_eql ⟨rfl, rfl, trivial⟩ trivial rfl ?_ | refine al_v opx_lss ⟨rfl, rfl, trivial⟩ trivial rfl ?_ | refine al_v opx_gtr ⟨rfl, rfl, trivial⟩ trivial rfl ?_ | refine al_v (opx_add (by unfold InR; omega)) ⟨rfl, rfl, trivial⟩ trivial rfl ?_ | refine al_v (opx_sub (by unfold InR; omega)) ⟨rfl, rfl, trivial⟩ trivial rfl ?_ | refine al_v (opx_mul (by unfold InR; omega)) ⟨rfl, rfl, trivial⟩ trivial rfl ?_ | refine al_v (opx_quo (by unfold InR; omega) (by omega) (by omega)) ⟨rfl, rfl, trivial⟩ trivial rfl ?_)) | (refine is_load ?_; refine al_v (opx_ld_el (by assumption) rfl) ⟨rfl, trivial⟩ ⟨rfl, trivial⟩ rfl ?_) | (refine is_assign ?_; (first | refine al_v (opx_assign (.raw _)) ⟨rfl, trivial⟩ trivial rfl ?_ | refine al_v (opx_assign (.sl _ _)) ⟨rfl, trivial⟩ trivial rfl ?_ | refine al_v (opx_assign (.own _)) ⟨rfl, trivial⟩ trivial rfl ?_)) | (refine is_pick ?_; refine al_v (opx_pick_f (.raw _) (by assumption)) ⟨rfl, rfl, trivial⟩ trivial rfl ?_) | (refine is_bi ?_; (first | refine al_v opx_len_sl ⟨rfl, trivial⟩ trivial rfl ?_ | refine al_v opx_len_own ⟨rfl, trivial⟩ ⟨rfl, trivial⟩ rfl ?_)) | (refine is_ia ?_; refine al_v (opx_ia_own2 hkr (by omega)) ⟨rfl, rfl, trivial⟩ ⟨rfl, trivial⟩ rfl ?_) | (refine is_call ?_; (first | refine al_callF (by (repeat (first | exact .nil | refine .one rfl rfl ?_ | refine .froz rfl rfl ?_ | refine .rnil rfl ?_ | refine .agg rfl (by (repeat (first | exact .nil | refine .cons (.same rfl) ?_ | refine .cons (.froz rfl) ?_ | refine .cons (.rnil) ?_)); (first | done | fail)) ?_)); (first | done | fail)) rfl (hr) rfl ?_ | refine al_callr2 (by (repeat (first | exact .nil | refine .one rfl rfl ?_ | refine .froz rfl rfl ?_ | refine .rnil rfl ?_ | refine .agg rfl (by (repeat (first | exact .nil | refine .cons (.same rfl) ?_ | refine .cons (.froz rfl) ?_ | refine .cons (.rnil) ?_)); (first | done | fail)) ?_)); (first | done | fail)) rfl (c_valuesOf ps (by omega)) ?_ | refine al_mark0 0 rfl rfl (by (repeat (first | exact .nil | refine .one rfl rfl ?_ | refine .tag rfl ?_ | refine .froz rfl rfl ?_ | refine .rnil rfl ?_ | refine .agg rfl (by (repeat (first | exact .nil | refine .cons (.same rfl) ?_ | refine .cons (.froz rfl) ?_ | refine .cons (.rnil) ?_)); (first | done | fail)) ?_)); (first | done | fail)) rfl (c_Sort _ _ hne (by omega)) ?_)) | refine al_nil ?_)) | (refine is_aw ?_; (first | refine aw_seq ?_ | refine aw_region ?_ | refine aw_skip ?_ | refine aw_ret ?_ | (refine is_cond ?_; refine aw_cond_f rfl (by assumption) ?_))))
  exact ret_raw2 trivial rfl rfl ⟨by rw [hq], rfl⟩
end Go.Proofs.Ytgakfhilconceaa
