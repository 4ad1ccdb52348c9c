/-
  Groups: the program's walk.
-/
import Derived.Test.YtoalaimmgmehaaaW91
namespace Go.Proofs.Ytoalaimmgmehaaa
open Go.RowKit
set_option linter.unusedVariables false
set_option linter.unusedSimpArgs false
attribute [local irreducible] AL AW OpX Le AD

instance : MpT Try.prog 78 9 3 := ⟨by kernel_rfl, by kernel_rfl, fun w => Try.zeroValue3 w⟩
theorem foldV_in {kind a v : Int} (ha : -100000000 ≤ a ∧ a ≤ 100000000) (hv : -1000000 ≤ v ∧ v ≤ 1000000) : -101000000 ≤ foldV kind a v ∧ foldV kind a v ≤ 101000000 := by
  unfold foldV
  split
  · omega
  · split
    · omega
    · split <;> omega
theorem c_groupValue (kind a v : Int) (ha : -100000000 ≤ a ∧ a ≤ 100000000) (hv : -1000000 ≤ v ∧ v ≤ 1000000) : Con Try.prog 61 [rI kind, rI a, rI v] [] (fun rs all => rs = [rI (foldV kind a v)] ∧ all = []) := by
  refine con_of_aw (vars := [.tmp 6]) [(0, .r (rI kind)), (1, .r (rI a)), (2, .r (rI v))] [] 0 Try.func61 (by kernel_rfl) rfl Try.ntmps61 rfl (by decide) rfl rfl rfl rfl rfl ?_
  intro B M w0 ρ0 Z0
  by_cases h0 : kind = 0
  · have d0 : decide (kind = 0) = true := decide_eq_true h0
    repeat' (first | (refine is_al ?_; (first | (refine is_move ?_; refine al_v (opx_move (.raw _)) ⟨rfl, trivial⟩ trivial rfl ?_) | (refine is_bin ?_; (first | refine al_v opx_eql ⟨rfl, rfl, trivial⟩ trivial rfl ?_ | refine al_v (opx_add (by unfold InR; omega)) ⟨rfl, rfl, trivial⟩ trivial rfl ?_)) | (refine is_assign ?_; refine al_v (opx_assign (.raw _)) ⟨rfl, trivial⟩ trivial rfl ?_) | refine al_nil ?_)) | (refine is_aw ?_; (first | refine aw_seq ?_ | refine aw_region ?_ | refine aw_block ?_ | refine aw_ret ?_ | (refine is_cond ?_; refine aw_cond_t rfl (by assumption) ?_))) | refine thn_r ?_ | refine inb_r ?_)
    exact ret_raw trivial rfl ⟨by rw [foldV, if_pos h0], rfl⟩
  have d0 : decide (kind = 0) = false := decide_eq_false h0
  by_cases h1 : kind = 1
  · have d1 : decide (kind = 1) = true := decide_eq_true h1
    repeat' (first | (refine is_al ?_; (first | (refine is_move ?_; refine al_v (opx_move (.raw _)) ⟨rfl, trivial⟩ trivial rfl ?_) | (refine is_bin ?_; refine al_v opx_eql ⟨rfl, rfl, trivial⟩ trivial rfl ?_) | (refine is_assign ?_; refine al_v (opx_assign (.raw _)) ⟨rfl, trivial⟩ trivial rfl ?_) | (refine is_bi ?_; refine al_v opx_min2 ⟨rfl, rfl, trivial⟩ trivial rfl ?_) | refine al_nil ?_)) | (refine is_aw ?_; (first | refine aw_seq ?_ | refine aw_region ?_ | refine aw_block ?_ | refine aw_ret ?_ | (refine is_cond ?_; (first | refine aw_cond_t rfl (by assumption) ?_ | refine aw_cond_f rfl (by assumption) ?_)))) | refine thn_r ?_ | refine inb_r ?_)
    exact ret_raw trivial rfl ⟨by rw [foldV, if_neg h0, if_pos h1], rfl⟩
  have d1 : decide (kind = 1) = false := decide_eq_false h1
  by_cases h2 : kind = 2
  · have d2 : decide (kind = 2) = true := decide_eq_true h2
    repeat' (first | (refine is_al ?_; (first | (refine is_move ?_; refine al_v (opx_move (.raw _)) ⟨rfl, trivial⟩ trivial rfl ?_) | (refine is_bin ?_; refine al_v opx_eql ⟨rfl, rfl, trivial⟩ trivial rfl ?_) | (refine is_assign ?_; refine al_v (opx_assign (.raw _)) ⟨rfl, trivial⟩ trivial rfl ?_) | (refine is_bi ?_; refine al_v opx_max2 ⟨rfl, rfl, trivial⟩ trivial rfl ?_) | refine al_nil ?_)) | (refine is_aw ?_; (first | refine aw_seq ?_ | refine aw_region ?_ | refine aw_block ?_ | refine aw_ret ?_ | (refine is_cond ?_; (first | refine aw_cond_t rfl (by assumption) ?_ | refine aw_cond_f rfl (by assumption) ?_)))) | refine thn_r ?_ | refine inb_r ?_)
    exact ret_raw trivial rfl ⟨by rw [foldV, if_neg h0, if_neg h1, if_pos h2], rfl⟩
  have d2 : decide (kind = 2) = false := decide_eq_false h2
  repeat' (first | (refine is_al ?_; (first | (refine is_move ?_; refine al_v (opx_move (.raw _)) ⟨rfl, trivial⟩ trivial rfl ?_) | (refine is_bin ?_; (first | refine al_v opx_eql ⟨rfl, rfl, trivial⟩ trivial rfl ?_ | refine al_v (opx_add (by unfold InR; omega)) ⟨rfl, rfl, trivial⟩ trivial rfl ?_)) | (refine is_assign ?_; refine al_v (opx_assign (.raw _)) ⟨rfl, trivial⟩ trivial rfl ?_) | refine al_nil ?_)) | (refine is_aw ?_; (first | refine aw_seq ?_ | refine aw_region ?_ | refine aw_skip ?_ | refine aw_block ?_ | refine aw_ret ?_ | (refine is_cond ?_; refine aw_cond_f rfl (by assumption) ?_))))
  exact ret_raw trivial rfl ⟨by rw [foldV, if_neg h0, if_neg h1, if_neg h2], rfl⟩
theorem c_fold (kind a v : Int) (ha : -100000000 ≤ a ∧ a ≤ 100000000) (hv : -1000000 ≤ v ∧ v ≤ 1000000) : Con Try.prog 83 [rI a, rI v, rI kind] [] (fun rs all => rs = [rI (foldV kind a v)] ∧ all = []) := by
  refine con_of_aw (vars := [.tmp 6]) [(0, .r (rI a)), (1, .r (rI v)), (2, .r (rI kind))] [] 0 Try.func83 (by kernel_rfl) rfl Try.ntmps83 rfl (by decide) rfl rfl rfl rfl rfl ?_
  intro B M w0 ρ0 Z0
  by_cases h0 : kind = 0
  · have d0 : decide (kind = 0) = true := decide_eq_true h0
    repeat' (first | (refine is_al ?_; (first | (refine is_move ?_; refine al_v (opx_move (.raw _)) ⟨rfl, trivial⟩ trivial rfl ?_) | (refine is_bin ?_; (first | refine al_v opx_eql ⟨rfl, rfl, trivial⟩ trivial rfl ?_ | refine al_v (opx_add (by unfold InR; omega)) ⟨rfl, rfl, trivial⟩ trivial rfl ?_)) | (refine is_assign ?_; refine al_v (opx_assign (.raw _)) ⟨rfl, trivial⟩ trivial rfl ?_) | refine al_nil ?_)) | (refine is_aw ?_; (first | refine aw_seq ?_ | refine aw_region ?_ | refine aw_block ?_ | refine aw_ret ?_ | (refine is_cond ?_; refine aw_cond_t rfl (by assumption) ?_))) | refine thn_r ?_ | refine inb_r ?_)
    exact ret_raw trivial rfl ⟨by rw [foldV, if_pos h0], rfl⟩
  have d0 : decide (kind = 0) = false := decide_eq_false h0
  by_cases h1 : kind = 1
  · have d1 : decide (kind = 1) = true := decide_eq_true h1
    repeat' (first | (refine is_al ?_; (first | (refine is_move ?_; refine al_v (opx_move (.raw _)) ⟨rfl, trivial⟩ trivial rfl ?_) | (refine is_bin ?_; refine al_v opx_eql ⟨rfl, rfl, trivial⟩ trivial rfl ?_) | (refine is_assign ?_; refine al_v (opx_assign (.raw _)) ⟨rfl, trivial⟩ trivial rfl ?_) | (refine is_bi ?_; refine al_v opx_min2 ⟨rfl, rfl, trivial⟩ trivial rfl ?_) | refine al_nil ?_)) | (refine is_aw ?_; (first | refine aw_seq ?_ | refine aw_region ?_ | refine aw_block ?_ | refine aw_ret ?_ | (refine is_cond ?_; (first | refine aw_cond_t rfl (by assumption) ?_ | refine aw_cond_f rfl (by assumption) ?_)))) | refine thn_r ?_ | refine inb_r ?_)
    exact ret_raw trivial rfl ⟨by rw [foldV, if_neg h0, if_pos h1], rfl⟩
  have d1 : decide (kind = 1) = false := decide_eq_false h1
  by_cases h2 : kind = 2
  · have d2 : decide (kind = 2) = true := decide_eq_true h2
    repeat' (first | (refine is_al ?_; (first | (refine is_move ?_; refine al_v (opx_move (.raw _)) ⟨rfl, trivial⟩ trivial rfl ?_) | (refine is_bin ?_; refine al_v opx_eql ⟨rfl, rfl, trivial⟩ trivial rfl ?_) | (refine is_assign ?_; refine al_v (opx_assign (.raw _)) ⟨rfl, trivial⟩ trivial rfl ?_) | (refine is_bi ?_; refine al_v opx_max2 ⟨rfl, rfl, trivial⟩ trivial rfl ?_) | refine al_nil ?_)) | (refine is_aw ?_; (first | refine aw_seq ?_ | refine aw_region ?_ | refine aw_block ?_ | refine aw_ret ?_ | (refine is_cond ?_; (first | refine aw_cond_t rfl (by assumption) ?_ | refine aw_cond_f rfl (by assumption) ?_)))) | refine thn_r ?_ | refine inb_r ?_)
    exact ret_raw trivial rfl ⟨by rw [foldV, if_neg h0, if_neg h1, if_pos h2], rfl⟩
  have d2 : decide (kind = 2) = false := decide_eq_false h2
  repeat' (first | (refine is_al ?_; (first | (refine is_move ?_; refine al_v (opx_move (.raw _)) ⟨rfl, trivial⟩ trivial rfl ?_) | (refine is_bin ?_; (first | refine al_v opx_eql ⟨rfl, rfl, trivial⟩ trivial rfl ?_ | refine al_v (opx_add (by unfold InR; omega)) ⟨rfl, rfl, trivial⟩ trivial rfl ?_)) | (refine is_assign ?_; refine al_v (opx_assign (.raw _)) ⟨rfl, trivial⟩ trivial rfl ?_) | refine al_nil ?_)) | (refine is_aw ?_; (first | refine aw_seq ?_ | refine aw_region ?_ | refine aw_skip ?_ | refine aw_block ?_ | refine aw_ret ?_ | (refine is_cond ?_; refine aw_cond_f rfl (by assumption) ?_))))
  exact ret_raw trivial rfl ⟨by rw [foldV, if_neg h0, if_neg h1, if_neg h2], rfl⟩
theorem c_KeepLabels' (l : List Lb) (ns : List Str) (hV : VL l) (hL : ns.length ≤ 1000000000) : Con Try.prog 30 [slL l, slS ns] [] (fun rs all => rs = [slL (keepL ns l)] ∧ all = []) :=
  (c_KeepLabels l ns hV hL).froz fun rs all ⟨h1, h2⟩ => by subst h1 h2; exact ⟨⟨rfl, rfl⟩, rfl⟩
theorem c_keep' (l : List Lb) (ns : List Str) (hl : l.length ≤ 1000000) (hL : ns.length ≤ 1000000000) : Con Try.prog 82 [slL l, slS ns] [] (fun rs all => rs = [slL (keepL ns l)] ∧ all = []) :=
  (c_keep l ns hl hL).froz fun rs all ⟨h1, h2⟩ => by subst h1 h2; exact ⟨⟨rfl, rfl⟩, rfl⟩
/-! ### the keys' texts -/
def kTx (out : List Sm) : List Str := out.map fun s => txt s.1
theorem kTx_len {out : List Sm} : (kTx out).length = out.length := List.length_map _
theorem kTx_pos : ∀ {out : List Sm} {k : List Lb}, (∀ s ∈ out, VL s.1) → VL k → mpI (kTx out) (txt k) = pos out k
  | [], _, _, _ => rfl
  | s :: out, k, h1, h2 => by
    have ih := kTx_pos (out := out) (k := k) (fun t ht => h1 t (.tail _ ht)) h2
    have e : decide (txt s.1 = txt k) = decide (s.1 = k) := by
      rw [Bool.eq_iff_iff, decide_eq_true_iff, decide_eq_true_iff]
      exact ⟨fun h => IsT_inj ⟨h1 s (.head _), h⟩ ⟨h2, rfl⟩, fun h => by rw [h]⟩
    rw [mpI, pos] at ih
    rw [mpI, pos, kTx, List.map_cons, List.findIdx_cons, List.findIdx_cons, e]
    cases decide (s.1 = k)
    · simp only [cond_false]
      rw [← ih]; rfl
    · rfl
theorem kTx_set {out : List Sm} {p : Nat} {k : List Lb} {a b : Int} (h : out[p]? = some (k, a)) : kTx (out.set p (k, b)) = kTx out := by
  have := congrArg (List.map txt) (map_set_same (b := b) h)
  rw [List.map_map, List.map_map] at this
  exact this
/-- Values of groups stay small. -/
def smallV (out : List Sm) (n : Nat) : Prop := ∀ s ∈ out, -(1000 * (n : Int)) - 1 ≤ s.2 ∧ s.2 ≤ 1000 * (n : Int) + 1
theorem foldV_small {kind a v : Int} {n : Nat} (hn : 1 ≤ n) (ha : -(1000 * (n : Int)) - 1 ≤ a ∧ a ≤ 1000 * (n : Int) + 1) (hv : -1000 ≤ v ∧ v ≤ 1000) : -(1000 * ((n + 1 : Nat) : Int)) - 1 ≤ foldV kind a v ∧ foldV kind a v ≤ 1000 * ((n + 1 : Nat) : Int) + 1 := by
  unfold foldV
  split
  · omega
  · split
    · omega
    · split <;> omega
theorem upd_small {kind : Int} {out : List Sm} {k : List Lb} {v : Int} {n : Nat} (h : smallV out n) (hn : out.length ≤ n) (hv : -1000 ≤ v ∧ v ≤ 1000) : smallV (upd kind out k v) (n + 1) := by
  intro s hs
  by_cases hp : pos out k < out.length
  · obtain ⟨a, ha⟩ := pos_at hp
    rw [upd_old ha] at hs
    rcases List.mem_or_eq_of_mem_set hs with hs | rfl
    · have := h s hs; omega
    · exact foldV_small (by omega) (h _ (List.mem_of_getElem? ha)) hv
  · rw [upd_new hp] at hs
    rcases List.mem_append.1 hs with hs | hs
    · have := h s hs; omega
    · simp at hs
      subst hs
      unfold fstV
      dsimp only
      split <;> omega
theorem grp_small {ns : List Str} {kind : Int} (l : List Sm) (h : ∀ s ∈ l, -1000 ≤ s.2 ∧ s.2 ≤ 1000) : smallV (grp ns kind l) l.length := by
  refine grp_ind (ns := ns) (kind := kind) (P := fun l o => (∀ s ∈ l, -1000 ≤ s.2 ∧ s.2 ≤ 1000) → smallV o l.length) (fun _ s hs => by cases hs) (fun l s ih hl => ?_) l h
  rw [List.length_append, List.length_singleton]
  exact upd_small (ih fun t ht => hl t (List.mem_append_left _ ht)) grp_len (hl s (by simp))
noncomputable def grB (l : List Sm) (kind : Int) : Bool := vsmB l && decide (0 ≤ kind ∧ kind ≤ 3)
noncomputable def grR (ns : List Str) (kind : Int) (l : List Sm) : List Sm := if grB l kind = true then grp ns kind l else []
theorem c_GroupBy (l : List Sm) (ns : List Str) (kind : Int) (hL : l.length ≤ 1000000) (hb : smBig l) (hns : ns.length ≤ 1000000000) : Con Try.prog 27 [slM l, slS ns, rI kind] [] (fun rs all => rs = [.one (.own 0), rB (grB l kind)] ∧ all = [.row 2 46 (smRs (grR ns kind l))]) := by
  have hlr := smRs_len (xs := l)
  have n1 : (!true) = false := rfl
  have n2 : (!false) = true := rfl
  have hcv := c_ValidSamples l hL hb
  refine con_of_aw (vars := [.tmp 6, .tmp 7]) [(0, .r (slM l)), (1, .r (slS ns)), (2, .r (rI kind))] [] 0 Try.func27 (by kernel_rfl) rfl Try.ntmps27 rfl (by decide) rfl rfl rfl rfl rfl ?_
  intro B M w0 ρ0 Z0
  by_cases hk : 0 ≤ kind ∧ kind ≤ 3
  · have e1 : decide (kind < 0) = false := decide_eq_false (by omega)
    have e2 : decide (3 < kind) = false := decide_eq_false (by omega)
    cases hv : vsmB l
    · rw [hv] at hcv
      have f1 : grB l kind = false := by rw [grB, hv]; rfl
      have f2 : grR ns kind l = [] := by rw [grR, f1]; rfl
      repeat' (first | (refine is_al ?_; (first | (refine is_gd ?_; refine al_on rfl rfl rfl (by assumption) ?_) | (refine is_move ?_; (first | refine al_v (opx_move (.raw _)) ⟨rfl, trivial⟩ trivial rfl ?_ | refine al_v (opx_move (.sl _ _)) ⟨rfl, trivial⟩ trivial rfl ?_)) | (refine is_bin ?_; (first | refine al_v opx_lss ⟨rfl, rfl, trivial⟩ trivial rfl ?_ | refine al_v opx_gtr ⟨rfl, rfl, trivial⟩ trivial rfl ?_)) | (refine is_assign ?_; refine al_v (opx_assign (.raw _)) ⟨rfl, trivial⟩ trivial rfl ?_) | (refine is_pick ?_; refine al_v (opx_pick_f (.raw _) (by assumption)) ⟨rfl, rfl, trivial⟩ trivial rfl ?_) | (refine is_call ?_; refine al_callv2 (by (repeat (first | exact .nil | refine .one rfl rfl ?_ | refine .froz rfl rfl ?_ | refine .row rfl rfl ?_ | refine .rnil rfl ?_ | refine .agg rfl (by (repeat (first | exact .nil | refine .cons (.same rfl) ?_ | refine .cons (.froz rfl) ?_ | refine .cons (.rnil) ?_ | refine .cons (.row rfl rfl) ?_)); (first | done | fail)) ?_)); (first | done | fail)) rfl (hcv) rfl ?_) | refine al_v opx_not ⟨rfl, trivial⟩ trivial rfl ?_ | refine al_nil ?_)) | (refine is_aw ?_; (first | refine aw_seq ?_ | refine aw_region ?_ | (refine is_cond ?_; refine aw_cond_t rfl rfl ?_))) | refine thn_n ?_)
      refine aw_le (le_ownNil 6 2 46 rfl) ?_
      repeat' (first | (refine is_aw ?_; refine aw_ret ?_) | refine thn_r ?_)
      exact ret_row_raw trivial rfl rfl rfl ⟨by rw [f1], by rw [f2]; rfl⟩
    · rw [hv] at hcv
      have hVS := vsmB_of hv
      have h8 := hVS.1
      have f1 : grB l kind = true := by rw [grB, hv, decide_eq_true hk]; rfl
      have f2 : grR ns kind l = grp ns kind l := by rw [grR, if_pos f1]
      repeat' (first | (refine is_al ?_; (first | (refine is_gd ?_; refine al_on rfl rfl rfl (by assumption) ?_) | (refine is_move ?_; (first | refine al_v (opx_move (.raw _)) ⟨rfl, trivial⟩ trivial rfl ?_ | refine al_v (opx_move (.sl _ _)) ⟨rfl, trivial⟩ trivial rfl ?_)) | (refine is_bin ?_; (first | refine al_v opx_lss ⟨rfl, rfl, trivial⟩ trivial rfl ?_ | refine al_v opx_gtr ⟨rfl, rfl, trivial⟩ trivial rfl ?_)) | (refine is_assign ?_; (first | refine al_v (opx_assign (.raw _)) ⟨rfl, trivial⟩ trivial rfl ?_ | refine al_v (opx_assign (.own _)) ⟨rfl, trivial⟩ trivial rfl ?_)) | (refine is_pick ?_; refine al_v (opx_pick_f (.raw _) (by assumption)) ⟨rfl, rfl, trivial⟩ trivial rfl ?_) | (refine is_bi ?_; refine al_v opx_len_sl ⟨rfl, trivial⟩ trivial rfl ?_) | (refine is_call ?_; refine al_callv2 (by (repeat (first | exact .nil | refine .one rfl rfl ?_ | refine .froz rfl rfl ?_ | refine .row rfl rfl ?_ | refine .rnil rfl ?_ | refine .agg rfl (by (repeat (first | exact .nil | refine .cons (.same rfl) ?_ | refine .cons (.froz rfl) ?_ | refine .cons (.rnil) ?_ | refine .cons (.row rfl rfl) ?_)); (first | done | fail)) ?_)); (first | done | fail)) rfl (hcv) rfl ?_) | refine al_v opx_not ⟨rfl, trivial⟩ trivial rfl ?_ | refine al_nil ?_ | refine al_n opx_mkMap trivial trivial rfl ?_)) | (refine is_ad ?_; refine al_n opx_mkMap trivial trivial rfl ?_) | (refine is_aw ?_; (first | refine aw_seq ?_ | refine aw_region ?_ | refine aw_skip ?_ | refine aw_block ?_ | (refine is_cond ?_; refine aw_cond_f rfl rfl ?_))))
      refine aw_le (le_ownNil 9 2 46 rfl) ?_
      refine aw_loop (γ := Nat) (fun k => [(1, .r (slS ns)), (2, .r (rI kind)), (8, .own 0), (9, .own 1), (28, .r (slM l)), (29, .i ((smRs l).length : Int)), (30, .i (k : Int))]) (fun k => [(0, mpO (kTx (grp ns kind (l.take k)))), (1, .row 2 46 (smRs (grp ns kind (l.take k))))]) (fun _ => 2) (fun k => k ≤ l.length) (fun k => l.length - k) 0 (Nat.zero_le _) (le_mk [0, 1] rfl rfl rfl rfl ⟨rfl, rfl, rfl, rfl, rfl, rfl, rfl, trivial⟩ ⟨rfl, rfl, trivial⟩) ?_
      intro k hk1
      have hgl := grp_len (ns := ns) (kind := kind) (l := l.take k)
      have hlk : (l.take k).length = k := by rw [List.length_take]; omega
      rcases Nat.lt_or_ge k l.length with hlt | hge
      · have hc1 : decide ((k : Int) < ((smRs l).length : Int)) = true := decide_eq_true (by omega)
        obtain ⟨s, hs⟩ : ∃ s, l[k]? = some s := ⟨_, List.getElem?_eq_getElem hlt⟩
        have hsr := smRs_at hs
        obtain ⟨a1, a2, a3⟩ := VSm_mem hVS (List.mem_of_getElem? hs)
        have hKV := VL_keep (ns := ns) a1
        have hck := c_KeepLabels' s.1 ns a1 hns
        have hcf := c_FormatLabels (keepL ns s.1) (fun x hx => by obtain ⟨q1, q2⟩ := VL_mem hKV hx; exact ⟨by have := q1.2.1; unfold BIG; omega, by have := q2.2.1; unfold BIG; omega⟩) (by have := hKV.1; unfold BIG; omega)
        rw [fmt_t (vlB_t hKV)] at hcf
        have hoV : ∀ t ∈ grp ns kind (l.take k), VL t.1 := grp_VL _ fun t ht => (VSm_mem hVS (List.mem_of_mem_take ht)).1
        have hsm := grp_small (ns := ns) (kind := kind) (l.take k) (fun t ht => (VSm_mem hVS (List.mem_of_mem_take ht)).2)
        have hpos := kTx_pos hoV hKV
        have hkl := kTx_len (out := grp ns kind (l.take k))
        have hst := grp_take (ns := ns) (kind := kind) hs
        rw [hlk] at hgl hsm
        generalize hout : grp ns kind (l.take k) = out at hgl hoV hsm hpos hkl hst
        generalize hkey : keepL ns s.1 = key at hKV hck hcf hpos hst
        have hor := smRs_len (xs := out)
        by_cases hp : pos out key < out.length
        · obtain ⟨a, ha⟩ := pos_at hp
          rw [upd_old ha] at hst
          have hsv := hsm _ (List.mem_of_getElem? ha)
          dsimp only at hsv
          generalize hP : pos out key = p at hpos hst ha hp
          have g1 : (if mpI (kTx out) (txt key) < (kTx out).length then (mpI (kTx out) (txt key) : Int) else 0) = (p : Int) := by rw [hpos, if_pos (by omega)]
          have g2 : decide (mpI (kTx out) (txt key) < (kTx out).length) = true := by rw [hpos]; exact decide_eq_true (by omega)
          have har := smRs_at ha
          have hpl : p < (smRs out).length := by omega
          have hks := kTx_set (b := foldV kind a s.2) ha
          repeat' (first | (refine is_al ?_; (first | (refine is_move ?_; (first | refine al_v (opx_move (.raw _)) ⟨rfl, trivial⟩ trivial rfl ?_ | refine al_v (opx_move (.sl _ _)) ⟨rfl, trivial⟩ trivial rfl ?_ | refine al_v (opx_move (.own _)) ⟨rfl, trivial⟩ trivial rfl ?_ | refine al_v (opx_move (.tup _)) ⟨rfl, trivial⟩ trivial rfl ?_)) | (refine is_bin ?_; (first | refine al_v opx_lss ⟨rfl, rfl, trivial⟩ trivial rfl ?_ | refine al_v (opx_add (by unfold InR; omega)) ⟨rfl, rfl, trivial⟩ trivial rfl ?_)) | (refine is_load ?_; (first | refine al_v opx_ld2_imm ⟨rfl, trivial⟩ trivial rfl ?_ | refine al_v (opx_ld_box rfl) ⟨rfl, trivial⟩ ⟨rfl, trivial⟩ rfl ?_)) | (refine is_fa ?_; refine al_v opx_fa_ref ⟨rfl, trivial⟩ trivial rfl ?_) | (refine is_assign ?_; (first | refine al_v (opx_assign (.raw _)) ⟨rfl, trivial⟩ trivial rfl ?_ | refine al_v (opx_assign (.sl _ _)) ⟨rfl, trivial⟩ trivial rfl ?_)) | (refine is_ia ?_; refine al_v (opx_ia_sl2 hsr (by omega)) ⟨rfl, rfl, trivial⟩ trivial rfl ?_) | (refine is_call ?_; (first | refine al_callF (by (repeat (first | exact .nil | refine .one rfl rfl ?_ | refine .froz rfl rfl ?_ | refine .rnil rfl ?_ | refine .agg rfl (by (repeat (first | exact .nil | refine .cons (.same rfl) ?_ | refine .cons (.froz rfl) ?_ | refine .cons (.rnil) ?_)); (first | done | fail)) ?_)); (first | done | fail)) rfl (hck) rfl ?_ | refine al_callv2 (by (repeat (first | exact .nil | refine .one rfl rfl ?_ | refine .froz rfl rfl ?_ | refine .row rfl rfl ?_ | refine .rnil rfl ?_ | refine .agg rfl (by (repeat (first | exact .nil | refine .cons (.same rfl) ?_ | refine .cons (.froz rfl) ?_ | refine .cons (.rnil) ?_ | refine .cons (.row rfl rfl) ?_)); (first | done | fail)) ?_)); (first | done | fail)) rfl (hcf) rfl ?_)) | (refine is_st ?_; refine al_s (opx_sts_box (by rfl) (by rfl)) ⟨rfl, rfl, trivial⟩ ⟨rfl, trivial⟩ ?_) | refine al_v (opx_extract _ rfl) ⟨rfl, trivial⟩ trivial rfl ?_ | refine al_n opx_alloc trivial trivial rfl ?_ | refine al_nil ?_ | refine al_v (opx_mapGetE g1 g2) ⟨rfl, rfl, trivial⟩ ⟨rfl, trivial⟩ rfl ?_ | refine ad_stM1 rfl rfl rfl (by assumption) ?_)) | (refine is_ad ?_; (first | (refine isd_move ?_; (first | refine ad_v (opx_move (.raw _)) ⟨rfl, trivial⟩ trivial rfl ?_ | refine ad_v (opx_move (.own _)) ⟨rfl, trivial⟩ trivial rfl ?_)) | (refine isd_load ?_; (first | refine ad_v (opx_ld_box rfl) ⟨rfl, trivial⟩ ⟨rfl, trivial⟩ rfl ?_ | refine ad_v (opx_ld_el (by assumption) rfl) ⟨rfl, trivial⟩ ⟨rfl, trivial⟩ rfl ?_)) | (refine isd_fa ?_; (first | refine ad_v opx_fa_ref ⟨rfl, trivial⟩ trivial rfl ?_ | refine ad_v opx_fa_el ⟨rfl, trivial⟩ trivial rfl ?_)) | (refine isd_ia ?_; refine ad_v (opx_ia_own2 hpl (by omega)) ⟨rfl, rfl, trivial⟩ ⟨rfl, trivial⟩ rfl ?_) | (refine isd_call ?_; refine ad_callv2 (by (repeat (first | exact .nil | refine .one rfl rfl ?_ | refine .froz rfl rfl ?_ | refine .row rfl rfl ?_ | refine .rnil rfl ?_ | refine .agg rfl (by (repeat (first | exact .nil | refine .cons (.same rfl) ?_ | refine .cons (.froz rfl) ?_ | refine .cons (.rnil) ?_ | refine .cons (.row rfl rfl) ?_)); (first | done | fail)) ?_)); (first | done | fail)) rfl (c_groupValue _ _ _ (by omega) (by omega)) rfl ?_) | refine ad_nil (by kernel_rfl) ?_ | refine al_v (opx_mapGetE g1 g2) ⟨rfl, rfl, trivial⟩ ⟨rfl, trivial⟩ rfl ?_ | refine ad_stM1 rfl rfl rfl (by assumption) ?_)) | (refine is_aw ?_; (first | refine aw_seq ?_ | refine aw_region ?_ | refine aw_skip ?_ | refine aw_block ?_ | refine aw_exit ?_ | (refine is_cond ?_; (first | refine aw_cond_t rfl rfl ?_ | refine aw_cond_t rfl (by assumption) ?_)) | refine aw_draw mixed ?_)) | refine thn_n ?_)
          exact ⟨k + 1, hlt, by omega, le_mk [0, 1] rfl rfl rfl rfl ⟨rfl, rfl, rfl, rfl, rfl, rfl, rfl, trivial⟩ ⟨by rw [hst, hks]; rfl, by rw [hst]; rfl, trivial⟩⟩
        · rw [upd_new hp] at hst
          have g1 : (if mpI (kTx out) (txt key) < (kTx out).length then (mpI (kTx out) (txt key) : Int) else 0) = 0 := by rw [hpos, if_neg (by omega)]
          have g2 : decide (mpI (kTx out) (txt key) < (kTx out).length) = false := by rw [hpos]; exact decide_eq_false (by omega)
          have hnp : ¬ mpI (kTx out) (txt key) < (kTx out).length := by rw [hpos]; omega
          by_cases h3 : kind = 3
          · have e3 : decide (kind = 3) = true := decide_eq_true h3
            have hf : fstV kind s.2 = 1 := by rw [fstV, if_pos h3]
            rw [hf] at hst
            have hkt : kTx (out ++ [(key, (1 : Int))]) = kTx out ++ [txt key] := by rw [kTx, List.map_append]; rfl
            have hor2 := smRs_len (xs := out ++ [(key, (1 : Int))])
            have hll : (out ++ [(key, (1 : Int))]).length = out.length + 1 := by rw [List.length_append]; rfl
            repeat' (first | (refine is_al ?_; (first | (refine is_move ?_; (first | refine al_v (opx_move (.raw _)) ⟨rfl, trivial⟩ trivial rfl ?_ | refine al_v (opx_move (.sl _ _)) ⟨rfl, trivial⟩ trivial rfl ?_ | refine al_v (opx_move (.own _)) ⟨rfl, trivial⟩ trivial rfl ?_ | refine al_v (opx_move (.tup _)) ⟨rfl, trivial⟩ trivial rfl ?_)) | (refine is_bin ?_; (first | refine al_v opx_eql ⟨rfl, rfl, trivial⟩ trivial rfl ?_ | refine al_v opx_lss ⟨rfl, rfl, trivial⟩ trivial rfl ?_ | refine al_v (opx_add (by unfold InR; omega)) ⟨rfl, rfl, trivial⟩ trivial rfl ?_ | refine al_v (opx_sub (by unfold InR; omega)) ⟨rfl, rfl, trivial⟩ trivial rfl ?_)) | (refine is_load ?_; (first | refine al_v opx_ld2_imm ⟨rfl, trivial⟩ trivial rfl ?_ | refine al_v (opx_ld_box rfl) ⟨rfl, trivial⟩ ⟨rfl, trivial⟩ rfl ?_)) | (refine is_fa ?_; refine al_v opx_fa_ref ⟨rfl, trivial⟩ trivial rfl ?_) | (refine is_assign ?_; (first | refine al_v (opx_assign (.raw _)) ⟨rfl, trivial⟩ trivial rfl ?_ | refine al_v (opx_assign (.sl _ _)) ⟨rfl, trivial⟩ trivial rfl ?_ | refine al_v (opx_assign (.own _)) ⟨rfl, trivial⟩ trivial rfl ?_)) | (refine is_bi ?_; refine al_v opx_len_own ⟨rfl, trivial⟩ ⟨rfl, trivial⟩ rfl ?_) | (refine is_ia ?_; refine al_v (opx_ia_sl2 hsr (by omega)) ⟨rfl, rfl, trivial⟩ trivial rfl ?_) | (refine is_call ?_; (first | refine al_callF (by (repeat (first | exact .nil | refine .one rfl rfl ?_ | refine .froz rfl rfl ?_ | refine .rnil rfl ?_ | refine .agg rfl (by (repeat (first | exact .nil | refine .cons (.same rfl) ?_ | refine .cons (.froz rfl) ?_ | refine .cons (.rnil) ?_)); (first | done | fail)) ?_)); (first | done | fail)) rfl (hck) rfl ?_ | refine al_callv2 (by (repeat (first | exact .nil | refine .one rfl rfl ?_ | refine .froz rfl rfl ?_ | refine .row rfl rfl ?_ | refine .rnil rfl ?_ | refine .agg rfl (by (repeat (first | exact .nil | refine .cons (.same rfl) ?_ | refine .cons (.froz rfl) ?_ | refine .cons (.rnil) ?_ | refine .cons (.row rfl rfl) ?_)); (first | done | fail)) ?_)); (first | done | fail)) rfl (hcf) rfl ?_)) | (refine is_st ?_; refine al_s (opx_sts_box (by rfl) (by rfl)) ⟨rfl, rfl, trivial⟩ ⟨rfl, trivial⟩ ?_) | refine al_v (opx_extract _ rfl) ⟨rfl, trivial⟩ trivial rfl ?_ | refine al_v (opx_build2 (res := [_, _]) rfl) ⟨rfl, rfl, trivial⟩ trivial rfl ?_ | (refine is_bs ?_; refine al_pushM ⟨rfl, trivial⟩ rfl rfl rfl rfl rfl (by omega) ?_) | refine al_n opx_alloc trivial trivial rfl ?_ | refine al_nil ?_ | refine al_v (opx_mapGetE g1 g2) ⟨rfl, rfl, trivial⟩ ⟨rfl, trivial⟩ rfl ?_ | refine al_s (opx_mapPut hnp (by omega)) ⟨rfl, rfl, rfl, trivial⟩ ⟨rfl, trivial⟩ ?_)) | (refine is_ad ?_; (first | refine al_v (opx_mapGetE g1 g2) ⟨rfl, rfl, trivial⟩ ⟨rfl, trivial⟩ rfl ?_ | refine al_s (opx_mapPut hnp (by omega)) ⟨rfl, rfl, rfl, trivial⟩ ⟨rfl, trivial⟩ ?_)) | (refine is_aw ?_; (first | refine aw_seq ?_ | refine aw_region ?_ | refine aw_skip ?_ | refine aw_block ?_ | (refine is_cond ?_; (first | refine aw_cond_f rfl rfl ?_ | refine aw_cond_t rfl (by assumption) ?_)))) | refine thn_n ?_)
            exact ⟨k + 1, hlt, by omega, le_mk [0, _] rfl rfl rfl rfl ⟨rfl, rfl, rfl, rfl, rfl, rfl, rfl, trivial⟩ ⟨by rw [hst, hkt]; rfl, by rw [hst]; rfl, trivial⟩⟩
          · have e3 : decide (kind = 3) = false := decide_eq_false h3
            have hf : fstV kind s.2 = s.2 := by rw [fstV, if_neg h3]
            rw [hf] at hst
            have hkt : kTx (out ++ [(key, s.2)]) = kTx out ++ [txt key] := by rw [kTx, List.map_append]; rfl
            have hor2 := smRs_len (xs := out ++ [(key, s.2)])
            have hll : (out ++ [(key, s.2)]).length = out.length + 1 := by rw [List.length_append]; rfl
            repeat' (first | (refine is_al ?_; (first | (refine is_move ?_; (first | refine al_v (opx_move (.raw _)) ⟨rfl, trivial⟩ trivial rfl ?_ | refine al_v (opx_move (.sl _ _)) ⟨rfl, trivial⟩ trivial rfl ?_ | refine al_v (opx_move (.own _)) ⟨rfl, trivial⟩ trivial rfl ?_ | refine al_v (opx_move (.tup _)) ⟨rfl, trivial⟩ trivial rfl ?_)) | (refine is_bin ?_; (first | refine al_v opx_eql ⟨rfl, rfl, trivial⟩ trivial rfl ?_ | refine al_v opx_lss ⟨rfl, rfl, trivial⟩ trivial rfl ?_ | refine al_v (opx_add (by unfold InR; omega)) ⟨rfl, rfl, trivial⟩ trivial rfl ?_ | refine al_v (opx_sub (by unfold InR; omega)) ⟨rfl, rfl, trivial⟩ trivial rfl ?_)) | (refine is_load ?_; (first | refine al_v opx_ld2_imm ⟨rfl, trivial⟩ trivial rfl ?_ | refine al_v (opx_ld_box rfl) ⟨rfl, trivial⟩ ⟨rfl, trivial⟩ rfl ?_)) | (refine is_fa ?_; refine al_v opx_fa_ref ⟨rfl, trivial⟩ trivial rfl ?_) | (refine is_assign ?_; (first | refine al_v (opx_assign (.raw _)) ⟨rfl, trivial⟩ trivial rfl ?_ | refine al_v (opx_assign (.sl _ _)) ⟨rfl, trivial⟩ trivial rfl ?_ | refine al_v (opx_assign (.own _)) ⟨rfl, trivial⟩ trivial rfl ?_)) | (refine is_bi ?_; refine al_v opx_len_own ⟨rfl, trivial⟩ ⟨rfl, trivial⟩ rfl ?_) | (refine is_ia ?_; refine al_v (opx_ia_sl2 hsr (by omega)) ⟨rfl, rfl, trivial⟩ trivial rfl ?_) | (refine is_call ?_; (first | refine al_callF (by (repeat (first | exact .nil | refine .one rfl rfl ?_ | refine .froz rfl rfl ?_ | refine .rnil rfl ?_ | refine .agg rfl (by (repeat (first | exact .nil | refine .cons (.same rfl) ?_ | refine .cons (.froz rfl) ?_ | refine .cons (.rnil) ?_)); (first | done | fail)) ?_)); (first | done | fail)) rfl (hck) rfl ?_ | refine al_callv2 (by (repeat (first | exact .nil | refine .one rfl rfl ?_ | refine .froz rfl rfl ?_ | refine .row rfl rfl ?_ | refine .rnil rfl ?_ | refine .agg rfl (by (repeat (first | exact .nil | refine .cons (.same rfl) ?_ | refine .cons (.froz rfl) ?_ | refine .cons (.rnil) ?_ | refine .cons (.row rfl rfl) ?_)); (first | done | fail)) ?_)); (first | done | fail)) rfl (hcf) rfl ?_)) | (refine is_st ?_; refine al_s (opx_sts_box (by rfl) (by rfl)) ⟨rfl, rfl, trivial⟩ ⟨rfl, trivial⟩ ?_) | refine al_v (opx_extract _ rfl) ⟨rfl, trivial⟩ trivial rfl ?_ | refine al_v (opx_build2 (res := [_, _]) rfl) ⟨rfl, rfl, trivial⟩ trivial rfl ?_ | (refine is_bs ?_; refine al_pushM ⟨rfl, trivial⟩ rfl rfl rfl rfl rfl (by omega) ?_) | refine al_n opx_alloc trivial trivial rfl ?_ | refine al_nil ?_ | refine al_v (opx_mapGetE g1 g2) ⟨rfl, rfl, trivial⟩ ⟨rfl, trivial⟩ rfl ?_ | refine al_s (opx_mapPut hnp (by omega)) ⟨rfl, rfl, rfl, trivial⟩ ⟨rfl, trivial⟩ ?_)) | (refine is_ad ?_; (first | refine al_v (opx_mapGetE g1 g2) ⟨rfl, rfl, trivial⟩ ⟨rfl, trivial⟩ rfl ?_ | refine al_s (opx_mapPut hnp (by omega)) ⟨rfl, rfl, rfl, trivial⟩ ⟨rfl, trivial⟩ ?_)) | (refine is_aw ?_; (first | refine aw_seq ?_ | refine aw_region ?_ | refine aw_skip ?_ | refine aw_block ?_ | (refine is_cond ?_; (first | refine aw_cond_f rfl rfl ?_ | refine aw_cond_t rfl (by assumption) ?_ | refine aw_cond_f rfl (by assumption) ?_)))) | refine thn_n ?_)
            exact ⟨k + 1, hlt, by omega, le_mk [0, _] rfl rfl rfl rfl ⟨rfl, rfl, rfl, rfl, rfl, rfl, rfl, trivial⟩ ⟨by rw [hst, hkt]; rfl, by rw [hst]; rfl, trivial⟩⟩
      · have hc1 : decide ((k : Int) < ((smRs l).length : Int)) = false := decide_eq_false (by omega)
        rw [List.take_of_length_le hge]
        repeat' (first | (refine is_al ?_; (first | (refine is_move ?_; refine al_v (opx_move (.own _)) ⟨rfl, trivial⟩ trivial rfl ?_) | (refine is_bin ?_; refine al_v opx_lss ⟨rfl, rfl, trivial⟩ trivial rfl ?_) | (refine is_assign ?_; (first | refine al_v (opx_assign (.raw _)) ⟨rfl, trivial⟩ trivial rfl ?_ | refine al_v (opx_assign (.own _)) ⟨rfl, trivial⟩ trivial rfl ?_)) | refine al_nil ?_)) | (refine is_aw ?_; (first | refine aw_seq ?_ | refine aw_region ?_ | refine aw_ret ?_ | refine aw_exit ?_ | (refine is_cond ?_; refine aw_cond_f rfl (by assumption) ?_))))
        exact ret_row_raw trivial rfl rfl rfl ⟨by rw [f1], by rw [f2]⟩
  · have f1 : grB l kind = false := by rw [grB, decide_eq_false hk, Bool.and_false]
    have f2 : grR ns kind l = [] := by rw [grR, f1]; rfl
    by_cases h0 : kind < 0
    · have e1 : decide (kind < 0) = true := decide_eq_true h0
      repeat' (first | (refine is_al ?_; (first | (refine is_gd ?_; refine al_off rfl rfl rfl (by assumption) rfl ?_) | (refine is_move ?_; refine al_v (opx_move (.raw _)) ⟨rfl, trivial⟩ trivial rfl ?_) | (refine is_bin ?_; refine al_v opx_lss ⟨rfl, rfl, trivial⟩ trivial rfl ?_) | (refine is_assign ?_; refine al_v (opx_assign (.raw _)) ⟨rfl, trivial⟩ trivial rfl ?_) | (refine is_pick ?_; (first | refine al_v (opx_pick_t (.raw _) rfl) ⟨rfl, rfl, trivial⟩ trivial rfl ?_ | refine al_v (opx_pick_t (.raw _) (by assumption)) ⟨rfl, rfl, trivial⟩ trivial rfl ?_)) | refine al_nil ?_)) | (refine is_aw ?_; (first | refine aw_seq ?_ | refine aw_region ?_ | (refine is_cond ?_; refine aw_cond_t rfl rfl ?_))) | refine thn_n ?_)
      refine aw_le (le_ownNil 6 2 46 rfl) ?_
      repeat' (first | (refine is_aw ?_; refine aw_ret ?_) | refine thn_r ?_)
      exact ret_row_raw trivial rfl rfl rfl ⟨by rw [f1], by rw [f2]; rfl⟩
    · have e1 : decide (kind < 0) = false := decide_eq_false h0
      have e2 : decide (3 < kind) = true := decide_eq_true (by omega)
      repeat' (first | (refine is_al ?_; (first | (refine is_gd ?_; (first | refine al_on rfl rfl rfl (by assumption) ?_ | refine al_off rfl rfl rfl (by assumption) rfl ?_)) | (refine is_move ?_; refine al_v (opx_move (.raw _)) ⟨rfl, trivial⟩ trivial rfl ?_) | (refine is_bin ?_; (first | refine al_v opx_lss ⟨rfl, rfl, trivial⟩ trivial rfl ?_ | refine al_v opx_gtr ⟨rfl, rfl, trivial⟩ trivial rfl ?_)) | (refine is_assign ?_; refine al_v (opx_assign (.raw _)) ⟨rfl, trivial⟩ trivial rfl ?_) | (refine is_pick ?_; (first | refine al_v (opx_pick_t (.raw _) (by assumption)) ⟨rfl, rfl, trivial⟩ trivial rfl ?_ | refine al_v (opx_pick_f (.raw _) (by assumption)) ⟨rfl, rfl, trivial⟩ trivial rfl ?_)) | refine al_nil ?_)) | (refine is_aw ?_; (first | refine aw_seq ?_ | refine aw_region ?_ | (refine is_cond ?_; refine aw_cond_t rfl rfl ?_))) | refine thn_n ?_)
      refine aw_le (le_ownNil 6 2 46 rfl) ?_
      repeat' (first | (refine is_aw ?_; refine aw_ret ?_) | refine thn_r ?_)
      exact ret_row_raw trivial rfl rfl rfl ⟨by rw [f1], by rw [f2]; rfl⟩
end Go.Proofs.Ytoalaimmgmehaaa
