/- Texts: W136 W137 Eng28 Eng30 Eng41 Eng42 -/
import Derived.Test.YtokhfcfnhgianaaCG17
import Derived.Test.YtokhfcfnhgianaaCG8
/-
  Calls that write samples, or a row.
-/
namespace Go.Proofs.Ytokhfcfnhgianaa
open Go.RowKit
set_option linter.unusedVariables false
set_option linter.unusedSimpArgs false
attribute [local irreducible] AL AW OpX Le AD

theorem do_at {ρ : Nat → Value} {Z : Nat → Prop} {w : World} {v : Value} {i wd : Nat} {e : TypeId} {rows : List (List CV)} (h : DO (fun _ => v) Z w 0 (.row wd e rows)) (hi : ρ i = v) : DO ρ Z w i (.row wd e rows) := by
  subst hi; exact h
theorem do_to {ρ : Nat → Value} {Z : Nat → Prop} {w : World} {v : Value} {i wd : Nat} {e : TypeId} {rows : List (List CV)} (h : DO ρ Z w i (.row wd e rows)) (hi : ρ i = v) : DO (fun _ => v) Z w 0 (.row wd e rows) := by
  subst hi; exact h
theorem mcRs_flat {cs : List Mc} : flatRows (mcRs cs) := fun r hr c hc => by
  obtain ⟨x, _, rfl⟩ := List.mem_map.1 hr
  simp only [mcR, List.mem_cons, List.not_mem_nil, or_false] at hc
  rcases hc with rfl | rfl <;> rfl
def mcV (v : Value) (cs : List Mc) (i : Nat) : Value := ((v :: cs.map (·.1))[i]?).getD undef
theorem mcObs_at {cs : List Mc} {i : Nat} (h : (obAt (mcObs cs) i).live = true) : i < cs.length + 1 := by
  rcases Nat.lt_or_ge i (cs.length + 1) with h1 | h1
  · exact h1
  · rw [obAt, List.getD_eq_getElem?_getD, List.getElem?_eq_none (by rw [mcObs_len]; exact h1)] at h; cases h
theorem mcV_at {v : Value} {cs : List Mc} {i : Nat} (h : i < cs.length + 1) : (v :: cs.map (·.1))[i]? = some (mcV v cs i) := by
  rw [mcV, List.getElem?_eq_getElem (by simpa using h)]; rfl
theorem nest_obj {I : Nat → Prop} {w : World} {v : Value} {cs : List Mc} (h : NestC I w v cs) (i : Nat) : DO (mcV v cs) (fun _ => False) w i (obAt (mcObs cs) i) := by
  cases i with
  | zero => exact do_at h.out.1 rfl
  | succ i =>
    show DO _ _ _ _ (obAt (cs.map mcO) i)
    cases hc : cs[i]? with
    | none => rw [obAt, List.getD_eq_getElem?_getD, List.getElem?_map, hc]; trivial
    | some c =>
      have e : obAt (cs.map mcO) i = mcO c := by rw [obAt, List.getD_eq_getElem?_getD, List.getElem?_map, hc]; rfl
      rw [e]
      refine do_at (h.inn c (List.mem_of_getElem? hc)).1 ?_
      rw [mcV, List.getElem?_cons_succ, List.getElem?_map, hc]; rfl
theorem nest_in {I : Nat → Prop} {w : World} {v : Value} {cs : List Mc} (h : NestC I w v cs) {i g : Nat} (hi : i < cs.length + 1) (hb : blk (mcV v cs i) = some g) : I g := by
  cases i with
  | zero => exact h.out.2 g hb
  | succ i =>
    have hc := List.getElem?_eq_getElem (l := cs) (i := i) (by omega)
    rw [mcV, List.getElem?_cons_succ, List.getElem?_map, hc] at hb
    exact (h.inn _ (List.mem_of_getElem? hc)).2 g hb
theorem nest_entry {I : Nat → Prop} {w : World} {v : Value} {cs : List Mc} {k : Int} (h : NestC I w v cs) : Entry w (mcV v cs) (fun _ => False) [.one (.own 0), rI k] (mcObs cs) [v, .int .i64 k] :=
  ⟨⟨⟨rfl, h.out.one⟩, DC.raw _ rfl, trivial⟩, nest_obj h, fun i j g h1 h2 h3 h4 => h.sep i j _ _ g (mcV_at (mcObs_at h1)) (mcV_at (mcObs_at h2)) h3 h4, fun i g _ _ h => h, fun g hg => hg.elim, fun q hq => by cases hq⟩
theorem nest_leave {I : Nat → Prop} {w w' : World} {v : Value} {cs cs' : List Mc} {ρ' : Nat → Value} {Z' : Nat → Prop} {rs : List AR} {us : List Value} (h : NestC I w v cs) (hf : cs'.map (·.1) = cs.map (·.1))
    (hl : Leave w (mcV v cs) (fun _ => False) (mcObs cs) w' ρ' Z' rs (mcObs cs') us) : NestC I w' v cs' := by
  have hlen : cs'.length = cs.length := by have := congrArg List.length hf; simpa using this
  have hsame : ∀ i, i < cs.length + 1 → ρ' i = mcV v cs i := fun i hi => hl.same i (by rw [mcObs_len]; exact hi)
  refine ⟨⟨?_, h.out.2⟩, fun c hc => ?_, by rw [hf]; exact h.sep⟩
  · have h1 : DO ρ' Z' w' 0 (.row 2 44 (mcRs cs')) := hl.objs 0
    have h2 : DO ρ' (fun _ => False) w' 0 (.row 2 44 (mcRs cs')) := DO.flat h1 mcRs_flat
    exact do_to h2 (hsame 0 (by omega))
  · obtain ⟨j, hj⟩ := List.mem_iff_getElem?.1 hc
    have hjl := (List.getElem?_eq_some_iff.1 hj).1
    have h1 := hl.objs (j + 1)
    have e : obAt (mcObs cs') (j + 1) = mcO c := by
      show obAt (cs'.map mcO) j = _
      rw [obAt, List.getD_eq_getElem?_getD, List.getElem?_map, hj]; rfl
    rw [e] at h1
    have h2 : DO ρ' (fun _ => False) w' (j + 1) (.row 2 60 (lbRs c.2.1)) := DO.flat h1 lbRs_flat
    have e2 : ρ' (j + 1) = c.1 := by
      rw [hsame (j + 1) (by omega), mcV, List.getElem?_cons_succ, ← hf, List.getElem?_map, hj]; rfl
    refine ⟨do_to h2 e2, fun g hg => nest_in h (i := j + 1) (by omega) ?_⟩
    rw [← hsame (j + 1) (by omega), e2]; exact hg
section
variable {ops : Array Oper} {K : KP} {N : Nat} {wi : World} {fs : List Fct} {rest : List Oper} {l : SL} {ty : TypeId} {pos : String} {af : Array Edge} {d : Nat} {xs : List Operand} {ats : Array TypeId}
theorem alf_markS {a b : Nat} {v : Value} {cs : List Mc} {k : Int} (fs' : List Fct) (hm : Fct.n a b v cs ∈ fs) (hsub : ∀ f ∈ fs', f ∈ fs ∧ (f.hi ≤ a ∨ b ≤ f.lo)) (hwi : wi.heap.size ≤ a)
    (hk : 1 ≤ k) (hE : mkE k (mcL cs) ≤ 10000000000) (hL : cs.length ≤ 10000000) (hn : ∀ c ∈ cs, c.2.1.length ≤ 10000000) (hr : l.all (fun p => rawB p.2) = true) (hv : ArgV (lk .dead l) xs [v, .int .i64 k]) (hd : Nat.blt d N = true)
    (h : ∀ cs', cs'.map (·.2) = mkS k (mcL cs) → ALF Try.prog ops K N wi (.n a b v cs' :: fs') rest ((d, .i (mkE k (mcL cs))) :: l)) :
    ALF Try.prog ops K N wi fs (⟨some d, .call { callee := .value (.func 12), args := xs.toArray, argTypes := ats }, ty, pos, af, none⟩ :: rest) l := fun w1 h1 h2 => by
  have hc := c_markSampleS cs k hk hE hL hn
  refine alw_callG (C := fun _ _ _ => True) hr hv hd fun w hw => ?_
  have hF := h1.kp hw
  have hK := h2.trans hw
  have hN : NestC (Iv a b) w v cs := (hF _ hm).1
  have hbw : b ≤ w.heap.size := (hF _ hm).2
  refine ⟨hc.ok, (hc.run w (mcV v cs) (fun _ => False) _ (fun j c hj => by rw [mcV, List.getElem?_cons_succ, List.getElem?_map, hj]; rfl) (nest_entry hN)).mono fun e1 w' h3 => ?_⟩
  obtain ⟨rs, all, us, ρ', Z', ⟨rfl, rfl⟩, _, he, hl⟩ := h3
  have hfr : Fr a b w w' := ⟨hl.os, hl.tape, hl.output, hl.size, fun g hg hng => hl.old g hg fun ⟨i, hi1, hi2⟩ => hng (nest_in hN (mcObs_at hi1) hi2)⟩
  match us, hl.res, he with
  | [u], hres, he =>
    have h9 : DC Z' w' (.raw (.int .i64 (mkE k (mcL cs)))) u := hres.1
    have h10 : u = .int .i64 (mkE k (mcL cs)) := by cases h9; rfl
    subst h10
    have hF' : Facts w fs' := fun f hf => hF f (hsub f hf).1
    exact ⟨_, he, .i (mkE k (mcL cs)), rfl, DC.raw _ rfl, h _ mcK_all w' ((hF'.fr hfr fun f hf => (hsub f hf).2).cons (f := .n a b v (mcK k cs.length cs)) (nest_leave hN mcK_fst hl) (Nat.le_trans hbw hl.size)) (Fr.kp hK hfr hwi)⟩
  | [], hres, _ => exact hres.elim
  | _ :: _ :: _, hres, _ => exact hres.2.elim
theorem alf_markR {P : Program} {f : FuncId} {a b : Nat} {v kv u : Value} {wd : Nat} {e : TypeId} {rows rows' : List (List CV)} (fs' : List Fct) (hm : Fct.r a b v wd e rows ∈ fs) (hsub : ∀ f ∈ fs', f ∈ fs ∧ (f.hi ≤ a ∨ b ≤ f.lo)) (hwi : wi.heap.size ≤ a)
    (hc : Con P f [.one (.own 0), .one (.c (.raw kv))] [.row wd e rows] (fun rs all => rs = [.one (.c (.raw u))] ∧ all = [.row wd e rows'])) (hfl : flatRows rows') (hkv : kv.oneCell' = true)
    (hr : l.all (fun p => rawB p.2) = true) (hv : ArgV (lk .dead l) xs [v, kv]) (hd : Nat.blt d N = true)
    (h : ALF P ops K N wi (.r a b v wd e rows' :: fs') rest ((d, .raw u) :: l)) :
    ALF P ops K N wi fs (⟨some d, .call { callee := .value (.func f), args := xs.toArray, argTypes := ats }, ty, pos, af, none⟩ :: rest) l := fun w1 h1 h2 => by
  refine alw_callG (C := fun _ _ _ => True) hr hv hd fun w hw => ?_
  have hF := h1.kp hw
  have hK := h2.trans hw
  have hN : RowAt (Iv a b) w v wd e rows := (hF _ hm).1
  have hbw : b ≤ w.heap.size := (hF _ hm).2
  have hlive : ∀ i, (obAt [.row wd e rows] i).live = true → i = 0 := fun i hi => by
    cases i with
    | zero => rfl
    | succ i => cases hi
  refine ⟨hc.ok, (hc.run w (fun _ => v) (fun _ => False) [v, kv] ⟨⟨⟨rfl, hN.one⟩, DC.raw _ hkv, trivial⟩, fun i => ?_, fun i j g hi hj _ _ => (hlive i hi).trans (hlive j hj).symm, fun i g _ _ h => h, fun g hg => hg.elim, (fun q hq => by cases hq)⟩).mono fun e1 w' h3 => ?_⟩
  · cases i with
    | zero => exact hN.1
    | succ i => trivial
  · obtain ⟨rs, all, us, ρ', Z', ⟨rfl, rfl⟩, _, he, hl⟩ := h3
    have hfr : Fr a b w w' := ⟨hl.os, hl.tape, hl.output, hl.size, fun g hg hng => hl.old g hg fun ⟨i, hi1, hi2⟩ => hng (hN.2 g hi2)⟩
    match us, hl.res, he with
    | [u'], hres, he =>
      have h9 : DC Z' w' (.raw u) u' := hres.1
      have h10 : u' = u := by cases h9; rfl
      have h11 : u.oneCell' = true := by cases h9; assumption
      subst h10
      have hF' : Facts w fs' := fun f hf => hF f (hsub f hf).1
      have h12 : DO ρ' Z' w' 0 (.row wd e rows') := hl.objs 0
      have h13 : DO ρ' (fun _ => False) w' 0 (.row wd e rows') := DO.flat h12 hfl
      exact ⟨_, he, .raw u', rfl, DC.raw _ h11, h w' ((hF'.fr hfr fun f hf => (hsub f hf).2).cons (f := .r a b v wd e rows') ⟨do_to h13 (hl.same 0 (by simp)), hN.2⟩ (Nat.le_trans hbw hl.size)) (Fr.kp hK hfr hwi)⟩
    | [], hres, _ => exact hres.elim
    | _ :: _ :: _, hres, _ => exact hres.2.elim
end
def KF (d : Nat) (wi : World) : KP := fun e a w => isEnd e ∧ a.defers = [] ∧ a.tmps.getD d undef = .bool true ∧ Kp wi w
theorem con_of_raw {P : Program} {f : FuncId} {fn : Func} {c : Code} {N d : Nat} {args : List AR} (hf : P.funcs[f]? = some fn) (hok : fnOk P f = true) (hb : fn.body = some c) (hN : fn.ntmps = N) (hv : fn.results = [ResultVar.tmp d].toArray)
    (H : ∀ (w : World) (Z : Nat → Prop) (vs : List Value), DRL (fun _ => undef) Z w args vs → (∀ g, Z g → g < w.heap.size) → vs.length ≤ N ∧ ∃ l fs, l.all (fun p => rawB p.2) = true ∧ (∀ t, DA (fun _ => undef) (fun _ => False) w (lk .dead l t) (vs.getD t undef)) ∧ Facts w fs ∧ AWF P (KF d w) N w fs c l)
    (ht : args.all (fun r => r.tags.isEmpty) = true) :
    Con P f args [] (fun rs all => rs = [rB true] ∧ all = []) := by
  refine ⟨hok, fun w ρ Z vs he => ?_⟩
  rw [List.all_eq_true] at ht
  have ha : DRL (fun _ => undef) Z w args vs := DRL.mono (fun _ h => h) (Same.refl _ _) (fun x hx t hxt => by rw [List.isEmpty_iff.1 (ht x hx)] at hxt; cases hxt) he.args
  obtain ⟨hlen, l, fs, hr, hda, hF, hW⟩ := H w Z vs ha he.zlt
  refine calls_of_wp hf hb ?_
  refine Code.wp_mono ?_ (hW w hF (Fr.refl 0 0 w) _ w (st_raw hr ?_ rfl fun t => ?_))
  · rintro e a w' ⟨hex, hdf, hres, hk⟩
    have hr1 : (results fn a.tmps).run P w' = .ok (mkRet [.bool true]) w' := results_run hv (by simp) ⟨hres, trivial⟩
    have main : a.defers = [] ∧ ∃ v, (results fn a.tmps).run P w' = .ok v w' ∧ ∃ rs all us ρ' Z', (rs = [rB true] ∧ all = []) ∧ ([] : List OB).length ≤ all.length ∧ Ending.returned v = .returned (mkRet us) ∧ Leave w ρ Z [] w' ρ' Z' rs all us := by
      refine ⟨hdf, _, hr1, [rB true], [], [.bool true], ρ, Z, ⟨rfl, rfl⟩, Nat.le_refl _, rfl, ⟨⟨DC.raw _ rfl, trivial⟩, fun i => trivial, fun i hi => absurd hi (Nat.not_lt_zero _), (fun i j g h => by cases h), (fun i g h => by cases h), fun g h => h, fun g h => .inl h, fun g hg => Nat.lt_of_lt_of_le (he.zlt g hg) hk.size, ⟨rfl, rfl⟩, hk.os, hk.tape, hk.output, hk.size, fun g hg _ => hk.at hg⟩⟩
    cases e with
    | normal => exact main
    | ret => exact main
    | _ => exact hex.elim
  · simp [hN]; omega
  · have e : (vs.toArray ++ Array.replicate (fn.ntmps - vs.toArray.size) undef).getD t undef = vs.getD t undef := by
      rw [Array.getD_eq_getD_getElem?, List.getD_eq_getElem?_getD]
      by_cases h : t < vs.length
      · rw [Array.getElem?_append_left (by simpa using h)]; simp
      · rw [Array.getElem?_append_right (by simp; omega), List.getElem?_eq_none (by omega)]
        simp only [Array.getElem?_replicate]
        split <;> rfl
    rw [e]
    exact hda t
end Go.Proofs.Ytokhfcfnhgianaa
/-
  ExactGroupBy: the walk.
-/
namespace Go.Proofs.Ytokhfcfnhgianaa
open Go.RowKit
set_option linter.unusedVariables false
set_option linter.unusedSimpArgs false
attribute [local irreducible] AL AW OpX Le AD

theorem szT_dn2 {left : Int} {l : List Lb} (h : ¬ szT left l < 0) : szT left l ≤ left - (l.length : Int) := by
  unfold szT at h ⊢
  split at h
  · omega
  · rename_i h1
    rw [if_neg h1]
    exact szLs_dn h
theorem mkE_sz : ∀ {l : List Sm} {left k : Int}, ¬ szMs left l < 0 → mkE k (l.map fun s => s.1.length) ≤ k + 2 * left + (l.length : Int)
  | [], left, k, h => by simp only [szMs] at h; simp [mkE]; omega
  | s :: l, left, k, h => by
    simp only [szMs] at h
    split at h
    · omega
    · rename_i h1
      have h2 := szT_dn2 h1
      have h3 := mkE_sz (k := k + 2 * (s.1.length : Int) + 1) h
      simp only [List.map_cons, mkE, List.length_cons]
      omega
theorem mcL_eq {cs : List Mc} {l : List Sm} (h : cs.map (·.2) = l) : mcL cs = l.map fun s => s.1.length := by
  subst h
  simp [mcL]
theorem mc_mem {cs : List Mc} {l : List Sm} (h : cs.map (·.2) = l) {c : Mc} (hc : c ∈ cs) : c.2 ∈ l := by
  subst h
  exact List.mem_map.2 ⟨c, hc, rfl⟩
theorem mc_len {cs : List Mc} {l : List Sm} (h : cs.map (·.2) = l) : cs.length = l.length := by
  subst h
  simp
theorem grR_small {ns : List Str} {kind : Int} {l : List Sm} : (grR ns kind l).length ≤ 8 ∧ ∀ s ∈ grR ns kind l, s.1.length ≤ 4 := by
  unfold grR
  split
  · rename_i h
    simp only [grB, Bool.and_eq_true] at h
    have hv := vsmB_of h.1
    refine ⟨Nat.le_trans grp_len hv.1, fun s hs => ?_⟩
    exact (grp_VL l (fun t ht => (VSm_mem hv ht).1) s hs).1
  · exact ⟨Nat.zero_le _, fun s hs => by cases hs⟩
theorem c_fnExactGroupBy (l : List Sm) (ns : List Str) (kind : Int) (hL : l.length ≤ 9223372036854775807) (hs : smAny l) (hv : ∀ s ∈ l, -9223372036854775808 ≤ s.2 ∧ s.2 ≤ 9223372036854775807) (hN : ns.length ≤ 9223372036854775807) (hNs : ∀ x ∈ ns, x.length ≤ 9223372036854775807) :
    Con Try.prog 3 [slM l, slS ns, rI kind] [] (fun rs all => rs = [rB true] ∧ all = []) := by
  refine con_of_raw (d := 6) Try.func3 (by kernel_rfl) rfl Try.ntmps3 rfl (fun w Z vs ha hz => ?_) rfl
  obtain ⟨v0, v1, v2, rfl, hd0, hd1, rfl⟩ : ∃ v0 v1 v2, vs = [v0, v1, v2] ∧ DC Z w (.sl 2 (smRs l)) v0 ∧ DC Z w (.sl 1 (stRs ns)) v1 ∧ v2 = .int .i64 kind := by
    match vs, ha with
    | [v0, v1, v2], ha =>
      have h3 : DC Z w (.raw (.int .i64 kind)) v2 := ha.2.2.1
      exact ⟨v0, v1, v2, rfl, ha.1, ha.2.1, by cases h3; rfl⟩
    | [], ha => exact ha.elim
    | [_], ha => exact ha.2.elim
    | [_, _], ha => exact ha.2.2.elim
    | _ :: _ :: _ :: _ :: _, ha => exact ha.2.2.2.elim
  have hzI : ∀ g, Z g → Iv 0 w.heap.size g := fun g hg => ⟨Nat.zero_le _, hz g hg⟩
  refine ⟨by simp, [(0, .raw v0), (1, .raw v1), (2, .i kind)], [.d 0 w.heap.size (.sl 2 (smRs l)) v0, .d 0 w.heap.size (.sl 1 (stRs ns)) v1], rfl, fun t => ?_, ?_, ?_⟩
  · match t with
    | 0 => exact DC.raw v0 (DC.one hd0)
    | 1 => exact DC.raw v1 (DC.one hd1)
    | 2 => exact DC.raw _ rfl
    | t + 3 => trivial
  · exact Facts.cons (f := .d 0 w.heap.size (.sl 2 (smRs l)) v0) (DC.mono hzI (Same.refl _ _) hd0) (Nat.le_refl _) (Facts.cons (f := .d 0 w.heap.size (.sl 1 (stRs ns)) v1) (DC.mono hzI (Same.refl _ _) hd1) (Nat.le_refl _) fun f hf => by cases hf)
  clear ha hzI hd0 hd1
  repeat (first | refine awf_seq ?_ | refine awf_region ?_ | refine alf_nil ?_ | refine awf_skip ?_ | refine alf_v (opx_move (.raw _)) ⟨rfl, trivial⟩ rfl ?_ | refine alf_v (opx_move (.tup _)) ⟨rfl, trivial⟩ rfl ?_ | refine alf_v (opx_assign (.raw _)) ⟨rfl, trivial⟩ rfl ?_ | refine alf_v opx_not ⟨rfl, trivial⟩ rfl ?_ | refine alf_v (opx_extract _ rfl) ⟨rfl, trivial⟩ rfl ?_ | refine alf_v opx_lss ⟨rfl, rfl, trivial⟩ rfl ?_ | refine alf_v opx_neq ⟨rfl, rfl, trivial⟩ rfl ?_ | refine alf_v opx_bneq ⟨rfl, rfl, trivial⟩ rfl ?_ | refine alf_v (opx_pick_f (.raw _) (by first | rfl | assumption)) ⟨rfl, rfl, trivial⟩ rfl ?_ | refine alf_on rfl rfl rfl (by first | rfl | assumption) ?_ | refine awf_cond_f rfl (by first | rfl | assumption) ?_)
  refine alf_raw (c_szSampleS l 1048576 (by omega) hL hs) (.d (.head _) (.raw rfl .nil)) rfl ⟨rfl, rfl, trivial⟩ rfl ?_
  by_cases z1 : szM 1048576 l < 0
  · have d1 : decide (szM 1048576 l < 0) = true := decide_eq_true z1
    repeat (first | refine awf_seq ?_ | refine awf_region ?_ | refine alf_nil ?_ | refine awf_skip ?_ | refine alf_v (opx_move (.raw _)) ⟨rfl, trivial⟩ rfl ?_ | refine alf_v (opx_move (.tup _)) ⟨rfl, trivial⟩ rfl ?_ | refine alf_v (opx_assign (.raw _)) ⟨rfl, trivial⟩ rfl ?_ | refine alf_v opx_not ⟨rfl, trivial⟩ rfl ?_ | refine alf_v (opx_extract _ rfl) ⟨rfl, trivial⟩ rfl ?_ | refine alf_v opx_lss ⟨rfl, rfl, trivial⟩ rfl ?_ | refine alf_v opx_neq ⟨rfl, rfl, trivial⟩ rfl ?_ | refine alf_v opx_bneq ⟨rfl, rfl, trivial⟩ rfl ?_ | refine alf_v (opx_pick_f (.raw _) (by first | rfl | assumption)) ⟨rfl, rfl, trivial⟩ rfl ?_ | refine alf_on rfl rfl rfl (by first | rfl | assumption) ?_ | refine awf_cond_f rfl (by first | rfl | assumption) ?_)
    refine awf_cond_t rfl d1 ?_
    repeat (first | refine awf_seq ?_ | refine awf_region ?_ | refine alf_nil ?_ | refine awf_skip ?_ | refine alf_v (opx_move (.raw _)) ⟨rfl, trivial⟩ rfl ?_ | refine alf_v (opx_move (.tup _)) ⟨rfl, trivial⟩ rfl ?_ | refine alf_v (opx_assign (.raw _)) ⟨rfl, trivial⟩ rfl ?_ | refine alf_v opx_not ⟨rfl, trivial⟩ rfl ?_ | refine alf_v (opx_extract _ rfl) ⟨rfl, trivial⟩ rfl ?_ | refine alf_v opx_lss ⟨rfl, rfl, trivial⟩ rfl ?_ | refine alf_v opx_neq ⟨rfl, rfl, trivial⟩ rfl ?_ | refine alf_v opx_bneq ⟨rfl, rfl, trivial⟩ rfl ?_ | refine alf_v (opx_pick_f (.raw _) (by first | rfl | assumption)) ⟨rfl, rfl, trivial⟩ rfl ?_ | refine alf_on rfl rfl rfl (by first | rfl | assumption) ?_ | refine awf_cond_f rfl (by first | rfl | assumption) ?_)
    exact awf_ret rfl fun a w' hdf hk hda => (show KF 6 w .ret a w' from ⟨trivial, hdf, da_raw (hda 6), hk⟩)
  have d1 : decide (szM 1048576 l < 0) = false := decide_eq_false z1
  obtain ⟨q1, q2, q3⟩ := szM_le z1
  repeat (first | refine awf_seq ?_ | refine awf_region ?_ | refine alf_nil ?_ | refine awf_skip ?_ | refine alf_v (opx_move (.raw _)) ⟨rfl, trivial⟩ rfl ?_ | refine alf_v (opx_move (.tup _)) ⟨rfl, trivial⟩ rfl ?_ | refine alf_v (opx_assign (.raw _)) ⟨rfl, trivial⟩ rfl ?_ | refine alf_v opx_not ⟨rfl, trivial⟩ rfl ?_ | refine alf_v (opx_extract _ rfl) ⟨rfl, trivial⟩ rfl ?_ | refine alf_v opx_lss ⟨rfl, rfl, trivial⟩ rfl ?_ | refine alf_v opx_neq ⟨rfl, rfl, trivial⟩ rfl ?_ | refine alf_v opx_bneq ⟨rfl, rfl, trivial⟩ rfl ?_ | refine alf_v (opx_pick_f (.raw _) (by first | rfl | assumption)) ⟨rfl, rfl, trivial⟩ rfl ?_ | refine alf_on rfl rfl rfl (by first | rfl | assumption) ?_ | refine awf_cond_f rfl (by first | rfl | assumption) ?_)
  refine alf_raw (c_szStringS ns (szM 1048576 l) (by omega) hN hNs) (.d (.tail _ (.head _)) (.raw rfl .nil)) rfl ⟨rfl, rfl, trivial⟩ rfl ?_
  by_cases z2 : szS (szM 1048576 l) ns < 0
  · have d2 : decide (szS (szM 1048576 l) ns < 0) = true := decide_eq_true z2
    repeat (first | refine awf_seq ?_ | refine awf_region ?_ | refine alf_nil ?_ | refine awf_skip ?_ | refine alf_v (opx_move (.raw _)) ⟨rfl, trivial⟩ rfl ?_ | refine alf_v (opx_move (.tup _)) ⟨rfl, trivial⟩ rfl ?_ | refine alf_v (opx_assign (.raw _)) ⟨rfl, trivial⟩ rfl ?_ | refine alf_v opx_not ⟨rfl, trivial⟩ rfl ?_ | refine alf_v (opx_extract _ rfl) ⟨rfl, trivial⟩ rfl ?_ | refine alf_v opx_lss ⟨rfl, rfl, trivial⟩ rfl ?_ | refine alf_v opx_neq ⟨rfl, rfl, trivial⟩ rfl ?_ | refine alf_v opx_bneq ⟨rfl, rfl, trivial⟩ rfl ?_ | refine alf_v (opx_pick_f (.raw _) (by first | rfl | assumption)) ⟨rfl, rfl, trivial⟩ rfl ?_ | refine alf_on rfl rfl rfl (by first | rfl | assumption) ?_ | refine awf_cond_f rfl (by first | rfl | assumption) ?_)
    refine awf_cond_t rfl d2 ?_
    repeat (first | refine awf_seq ?_ | refine awf_region ?_ | refine alf_nil ?_ | refine awf_skip ?_ | refine alf_v (opx_move (.raw _)) ⟨rfl, trivial⟩ rfl ?_ | refine alf_v (opx_move (.tup _)) ⟨rfl, trivial⟩ rfl ?_ | refine alf_v (opx_assign (.raw _)) ⟨rfl, trivial⟩ rfl ?_ | refine alf_v opx_not ⟨rfl, trivial⟩ rfl ?_ | refine alf_v (opx_extract _ rfl) ⟨rfl, trivial⟩ rfl ?_ | refine alf_v opx_lss ⟨rfl, rfl, trivial⟩ rfl ?_ | refine alf_v opx_neq ⟨rfl, rfl, trivial⟩ rfl ?_ | refine alf_v opx_bneq ⟨rfl, rfl, trivial⟩ rfl ?_ | refine alf_v (opx_pick_f (.raw _) (by first | rfl | assumption)) ⟨rfl, rfl, trivial⟩ rfl ?_ | refine alf_on rfl rfl rfl (by first | rfl | assumption) ?_ | refine awf_cond_f rfl (by first | rfl | assumption) ?_)
    exact awf_ret rfl fun a w' hdf hk hda => (show KF 6 w .ret a w' from ⟨trivial, hdf, da_raw (hda 6), hk⟩)
  have d2 : decide (szS (szM 1048576 l) ns < 0) = false := decide_eq_false z2
  have hns2 := (szS_ok (by omega) z2).1
  have hL2 : l.length ≤ 2000000 := by omega
  have hs2 : ∀ s ∈ l, s.1.length ≤ 2000000 := fun s hs => by have := (q2 s hs).1; omega
  have hsb : smBig l := fun s hs => ⟨hs2 s hs, fun x hx => by have := (q2 s hs).2 x hx; unfold BIG; omega, hv s hs⟩
  obtain ⟨hG1, hG2⟩ := grR_small (ns := ns) (kind := kind) (l := l)
  have cG := c_eqSampleS (grR ns kind l) (by omega) (fun s hs => by have := hG2 s hs; omega)
  have cM := c_eqSampleS l hL2 hs2
  have n1 : (!true) = false := rfl
  have n2 : (!decide (grB l kind = grB l kind)) = false := by simp
  have n3 : (!decide (ns = ns)) = false := by simp
  repeat (first | refine awf_seq ?_ | refine awf_region ?_ | refine alf_nil ?_ | refine awf_skip ?_ | refine alf_v (opx_move (.raw _)) ⟨rfl, trivial⟩ rfl ?_ | refine alf_v (opx_move (.tup _)) ⟨rfl, trivial⟩ rfl ?_ | refine alf_v (opx_assign (.raw _)) ⟨rfl, trivial⟩ rfl ?_ | refine alf_v opx_not ⟨rfl, trivial⟩ rfl ?_ | refine alf_v (opx_extract _ rfl) ⟨rfl, trivial⟩ rfl ?_ | refine alf_v opx_lss ⟨rfl, rfl, trivial⟩ rfl ?_ | refine alf_v opx_neq ⟨rfl, rfl, trivial⟩ rfl ?_ | refine alf_v opx_bneq ⟨rfl, rfl, trivial⟩ rfl ?_ | refine alf_v (opx_pick_f (.raw _) (by first | rfl | assumption)) ⟨rfl, rfl, trivial⟩ rfl ?_ | refine alf_on rfl rfl rfl (by first | rfl | assumption) ?_ | refine awf_cond_f rfl (by first | rfl | assumption) ?_)
  refine alf_toS (c_toSampleS l hL2 hs2) (.d (.head _) .nil) rfl ⟨rfl, trivial⟩ rfl fun a1 b1 u1 cs1 e1 g1 k1 j1 => ?_
  repeat (first | refine awf_seq ?_ | refine awf_region ?_ | refine alf_nil ?_ | refine awf_skip ?_ | refine alf_v (opx_move (.raw _)) ⟨rfl, trivial⟩ rfl ?_ | refine alf_v (opx_move (.tup _)) ⟨rfl, trivial⟩ rfl ?_ | refine alf_v (opx_assign (.raw _)) ⟨rfl, trivial⟩ rfl ?_ | refine alf_v opx_not ⟨rfl, trivial⟩ rfl ?_ | refine alf_v (opx_extract _ rfl) ⟨rfl, trivial⟩ rfl ?_ | refine alf_v opx_lss ⟨rfl, rfl, trivial⟩ rfl ?_ | refine alf_v opx_neq ⟨rfl, rfl, trivial⟩ rfl ?_ | refine alf_v opx_bneq ⟨rfl, rfl, trivial⟩ rfl ?_ | refine alf_v (opx_pick_f (.raw _) (by first | rfl | assumption)) ⟨rfl, rfl, trivial⟩ rfl ?_ | refine alf_on rfl rfl rfl (by first | rfl | assumption) ?_ | refine awf_cond_f rfl (by first | rfl | assumption) ?_)
  refine alf_row (c_toStringS ns (by omega)) stRs_flat (.d (.tail _ (.tail _ (.head _))) .nil) rfl ⟨rfl, trivial⟩ rfl fun a2 b2 u2 g2 k2 j2 => ?_
  repeat (first | refine awf_seq ?_ | refine awf_region ?_ | refine alf_nil ?_ | refine awf_skip ?_ | refine alf_v (opx_move (.raw _)) ⟨rfl, trivial⟩ rfl ?_ | refine alf_v (opx_move (.tup _)) ⟨rfl, trivial⟩ rfl ?_ | refine alf_v (opx_assign (.raw _)) ⟨rfl, trivial⟩ rfl ?_ | refine alf_v opx_not ⟨rfl, trivial⟩ rfl ?_ | refine alf_v (opx_extract _ rfl) ⟨rfl, trivial⟩ rfl ?_ | refine alf_v opx_lss ⟨rfl, rfl, trivial⟩ rfl ?_ | refine alf_v opx_neq ⟨rfl, rfl, trivial⟩ rfl ?_ | refine alf_v opx_bneq ⟨rfl, rfl, trivial⟩ rfl ?_ | refine alf_v (opx_pick_f (.raw _) (by first | rfl | assumption)) ⟨rfl, rfl, trivial⟩ rfl ?_ | refine alf_on rfl rfl rfl (by first | rfl | assumption) ?_ | refine awf_cond_f rfl (by first | rfl | assumption) ?_)
  refine alf_data2 (c_sGroupBy' l ns kind hL2 hsb (by omega)) (.n (.tail _ (.head _)) e1 (.r (.head _) (.raw rfl .nil))) rfl ⟨rfl, rfl, rfl, trivial⟩ rfl fun s3 uw g3 k3 => ?_
  repeat (first | refine awf_seq ?_ | refine awf_region ?_ | refine alf_nil ?_ | refine awf_skip ?_ | refine alf_v (opx_move (.raw _)) ⟨rfl, trivial⟩ rfl ?_ | refine alf_v (opx_move (.tup _)) ⟨rfl, trivial⟩ rfl ?_ | refine alf_v (opx_assign (.raw _)) ⟨rfl, trivial⟩ rfl ?_ | refine alf_v opx_not ⟨rfl, trivial⟩ rfl ?_ | refine alf_v (opx_extract _ rfl) ⟨rfl, trivial⟩ rfl ?_ | refine alf_v opx_lss ⟨rfl, rfl, trivial⟩ rfl ?_ | refine alf_v opx_neq ⟨rfl, rfl, trivial⟩ rfl ?_ | refine alf_v opx_bneq ⟨rfl, rfl, trivial⟩ rfl ?_ | refine alf_v (opx_pick_f (.raw _) (by first | rfl | assumption)) ⟨rfl, rfl, trivial⟩ rfl ?_ | refine alf_on rfl rfl rfl (by first | rfl | assumption) ?_ | refine awf_cond_f rfl (by first | rfl | assumption) ?_)
  refine alf_toS (c_toSampleS l hL2 hs2) (.d (.tail _ (.tail _ (.tail _ (.head _)))) .nil) rfl ⟨rfl, trivial⟩ rfl fun a4 b4 ux csx ex g4 k4 j4 => ?_
  repeat (first | refine awf_seq ?_ | refine awf_region ?_ | refine alf_nil ?_ | refine awf_skip ?_ | refine alf_v (opx_move (.raw _)) ⟨rfl, trivial⟩ rfl ?_ | refine alf_v (opx_move (.tup _)) ⟨rfl, trivial⟩ rfl ?_ | refine alf_v (opx_assign (.raw _)) ⟨rfl, trivial⟩ rfl ?_ | refine alf_v opx_not ⟨rfl, trivial⟩ rfl ?_ | refine alf_v (opx_extract _ rfl) ⟨rfl, trivial⟩ rfl ?_ | refine alf_v opx_lss ⟨rfl, rfl, trivial⟩ rfl ?_ | refine alf_v opx_neq ⟨rfl, rfl, trivial⟩ rfl ?_ | refine alf_v opx_bneq ⟨rfl, rfl, trivial⟩ rfl ?_ | refine alf_v (opx_pick_f (.raw _) (by first | rfl | assumption)) ⟨rfl, rfl, trivial⟩ rfl ?_ | refine alf_on rfl rfl rfl (by first | rfl | assumption) ?_ | refine awf_cond_f rfl (by first | rfl | assumption) ?_)
  refine alf_row (c_toStringS ns (by omega)) stRs_flat (.d (.tail _ (.tail _ (.tail _ (.tail _ (.tail _ (.head _)))))) .nil) rfl ⟨rfl, trivial⟩ rfl fun a5 b5 ux1 g5 k5 j5 => ?_
  repeat (first | refine awf_seq ?_ | refine awf_region ?_ | refine alf_nil ?_ | refine awf_skip ?_ | refine alf_v (opx_move (.raw _)) ⟨rfl, trivial⟩ rfl ?_ | refine alf_v (opx_move (.tup _)) ⟨rfl, trivial⟩ rfl ?_ | refine alf_v (opx_assign (.raw _)) ⟨rfl, trivial⟩ rfl ?_ | refine alf_v opx_not ⟨rfl, trivial⟩ rfl ?_ | refine alf_v (opx_extract _ rfl) ⟨rfl, trivial⟩ rfl ?_ | refine alf_v opx_lss ⟨rfl, rfl, trivial⟩ rfl ?_ | refine alf_v opx_neq ⟨rfl, rfl, trivial⟩ rfl ?_ | refine alf_v opx_bneq ⟨rfl, rfl, trivial⟩ rfl ?_ | refine alf_v (opx_pick_f (.raw _) (by first | rfl | assumption)) ⟨rfl, rfl, trivial⟩ rfl ?_ | refine alf_on rfl rfl rfl (by first | rfl | assumption) ?_ | refine awf_cond_f rfl (by first | rfl | assumption) ?_)
  refine alf_grp (c_GroupByN l ns kind hL2 hsb (by omega)) (.n (.tail _ (.head _)) ex (.r (.head _) (.raw rfl .nil))) rfl ⟨rfl, rfl, rfl, trivial⟩ rfl fun a6 b6 ug csg eg g6 k6 j6 => ?_
  repeat (first | refine awf_seq ?_ | refine awf_region ?_ | refine alf_nil ?_ | refine awf_skip ?_ | refine alf_v (opx_move (.raw _)) ⟨rfl, trivial⟩ rfl ?_ | refine alf_v (opx_move (.tup _)) ⟨rfl, trivial⟩ rfl ?_ | refine alf_v (opx_assign (.raw _)) ⟨rfl, trivial⟩ rfl ?_ | refine alf_v opx_not ⟨rfl, trivial⟩ rfl ?_ | refine alf_v (opx_extract _ rfl) ⟨rfl, trivial⟩ rfl ?_ | refine alf_v opx_lss ⟨rfl, rfl, trivial⟩ rfl ?_ | refine alf_v opx_neq ⟨rfl, rfl, trivial⟩ rfl ?_ | refine alf_v opx_bneq ⟨rfl, rfl, trivial⟩ rfl ?_ | refine alf_v (opx_pick_f (.raw _) (by first | rfl | assumption)) ⟨rfl, rfl, trivial⟩ rfl ?_ | refine alf_on rfl rfl rfl (by first | rfl | assumption) ?_ | refine awf_cond_f rfl (by first | rfl | assumption) ?_)
  refine alf_raw cG (.n (.head _) eg (.d (.tail _ (.tail _ (.tail _ (.head _)))) .nil)) rfl ⟨rfl, rfl, trivial⟩ rfl ?_
  repeat (first | refine awf_seq ?_ | refine awf_region ?_ | refine alf_nil ?_ | refine awf_skip ?_ | refine alf_v (opx_move (.raw _)) ⟨rfl, trivial⟩ rfl ?_ | refine alf_v (opx_move (.tup _)) ⟨rfl, trivial⟩ rfl ?_ | refine alf_v (opx_assign (.raw _)) ⟨rfl, trivial⟩ rfl ?_ | refine alf_v opx_not ⟨rfl, trivial⟩ rfl ?_ | refine alf_v (opx_extract _ rfl) ⟨rfl, trivial⟩ rfl ?_ | refine alf_v opx_lss ⟨rfl, rfl, trivial⟩ rfl ?_ | refine alf_v opx_neq ⟨rfl, rfl, trivial⟩ rfl ?_ | refine alf_v opx_bneq ⟨rfl, rfl, trivial⟩ rfl ?_ | refine alf_v (opx_pick_f (.raw _) (by first | rfl | assumption)) ⟨rfl, rfl, trivial⟩ rfl ?_ | refine alf_on rfl rfl rfl (by first | rfl | assumption) ?_ | refine awf_cond_f rfl (by first | rfl | assumption) ?_)
  refine alf_toS (c_toSampleS l hL2 hs2) (.d (.tail _ (.tail _ (.tail _ (.tail _ (.tail _ (.tail _ (.head _))))))) .nil) rfl ⟨rfl, trivial⟩ rfl fun a7 b7 u7 cs7 e7 g7 k7 j7 => ?_
  refine alf_raw cM (.n (.tail _ (.tail _ (.tail _ (.head _)))) ex (.n (.head _) e7 .nil)) rfl ⟨rfl, rfl, trivial⟩ rfl ?_
  repeat (first | refine awf_seq ?_ | refine awf_region ?_ | refine alf_nil ?_ | refine awf_skip ?_ | refine alf_v (opx_move (.raw _)) ⟨rfl, trivial⟩ rfl ?_ | refine alf_v (opx_move (.tup _)) ⟨rfl, trivial⟩ rfl ?_ | refine alf_v (opx_assign (.raw _)) ⟨rfl, trivial⟩ rfl ?_ | refine alf_v opx_not ⟨rfl, trivial⟩ rfl ?_ | refine alf_v (opx_extract _ rfl) ⟨rfl, trivial⟩ rfl ?_ | refine alf_v opx_lss ⟨rfl, rfl, trivial⟩ rfl ?_ | refine alf_v opx_neq ⟨rfl, rfl, trivial⟩ rfl ?_ | refine alf_v opx_bneq ⟨rfl, rfl, trivial⟩ rfl ?_ | refine alf_v (opx_pick_f (.raw _) (by first | rfl | assumption)) ⟨rfl, rfl, trivial⟩ rfl ?_ | refine alf_on rfl rfl rfl (by first | rfl | assumption) ?_ | refine awf_cond_f rfl (by first | rfl | assumption) ?_)
  refine alf_row (c_toStringS ns (by omega)) stRs_flat (.d (.tail _ (.tail _ (.tail _ (.tail _ (.tail _ (.tail _ (.tail _ (.tail _ (.head _))))))))) .nil) rfl ⟨rfl, trivial⟩ rfl fun a8 b8 u8 g8 k8 j8 => ?_
  refine alf_raw (c_eqStringS ns ns (by omega)) (.r (.tail _ (.tail _ (.tail _ (.head _)))) (.r (.head _) .nil)) rfl ⟨rfl, rfl, trivial⟩ rfl ?_
  repeat (first | refine awf_seq ?_ | refine awf_region ?_ | refine alf_nil ?_ | refine awf_skip ?_ | refine alf_v (opx_move (.raw _)) ⟨rfl, trivial⟩ rfl ?_ | refine alf_v (opx_move (.tup _)) ⟨rfl, trivial⟩ rfl ?_ | refine alf_v (opx_assign (.raw _)) ⟨rfl, trivial⟩ rfl ?_ | refine alf_v opx_not ⟨rfl, trivial⟩ rfl ?_ | refine alf_v (opx_extract _ rfl) ⟨rfl, trivial⟩ rfl ?_ | refine alf_v opx_lss ⟨rfl, rfl, trivial⟩ rfl ?_ | refine alf_v opx_neq ⟨rfl, rfl, trivial⟩ rfl ?_ | refine alf_v opx_bneq ⟨rfl, rfl, trivial⟩ rfl ?_ | refine alf_v (opx_pick_f (.raw _) (by first | rfl | assumption)) ⟨rfl, rfl, trivial⟩ rfl ?_ | refine alf_on rfl rfl rfl (by first | rfl | assumption) ?_ | refine awf_cond_f rfl (by first | rfl | assumption) ?_)
  have x1 : s3 ≤ a4 := g4 _ (.head _)
  have x2 : b4 ≤ a5 := g5 _ (.head _)
  have x3 : b5 ≤ a6 := g6 _ (.head _)
  have x4 : w.heap.size ≤ s3 := k3
  have hxL := mc_len ex
  have hxE : mkE 1 (mcL csx) ≤ 1 + 2 * 1048576 + 1048576 := by
    rw [mcL_eq ex]
    have e : szM 1048576 l = szMs (1048576 - (l.length : Int)) l := by
      rw [szM]; split
      · rename_i h; rw [szM, if_pos h] at z1; omega
      · rfl
    rw [e] at z1
    have := mkE_sz (k := 1) z1
    omega
  have hx0 := mkE_ge (ns := mcL csx) (k := 1)
  refine alf_markS [.n a6 b6 ug csg, .r a5 b5 ux1 1 9 (stRs ns), .d 0 s3 (.sl 2 (smRs (grR ns kind l))) uw, .d 0 w.heap.size (.sl 2 (smRs l)) v0, .d 0 w.heap.size (.sl 1 (stRs ns)) v1] (.tail _ (.tail _ (.tail _ (.tail _ (.head _))))) (fun f hf => ?_) k4 (by omega) (by omega) (by omega) (fun c hc => by have := hs2 _ (mc_mem ex hc); omega) rfl ⟨rfl, rfl, trivial⟩ rfl fun csx' ex' => ?_
  · simp only [List.mem_cons, List.not_mem_nil, or_false] at hf
    rcases hf with rfl | rfl | rfl | rfl | rfl
    · exact ⟨(.tail _ (.tail _ (.head _))), .inr (show b4 ≤ a6 by omega)⟩
    · exact ⟨(.tail _ (.tail _ (.tail _ (.head _)))), .inr (show b4 ≤ a5 by omega)⟩
    · exact ⟨(.tail _ (.tail _ (.tail _ (.tail _ (.tail _ (.head _)))))), .inl (show s3 ≤ a4 by omega)⟩
    · exact ⟨(.tail _ (.tail _ (.tail _ (.tail _ (.tail _ (.tail _ (.tail _ (.tail _ (.head _))))))))), .inl (show w.heap.size ≤ a4 by omega)⟩
    · exact ⟨(.tail _ (.tail _ (.tail _ (.tail _ (.tail _ (.tail _ (.tail _ (.tail _ (.tail _ (.head _)))))))))), .inl (show w.heap.size ≤ a4 by omega)⟩
  generalize mkE 1 (mcL csx) = kx at hxE hx0
  repeat (first | refine awf_seq ?_ | refine awf_region ?_ | refine alf_nil ?_ | refine awf_skip ?_ | refine alf_v (opx_move (.raw _)) ⟨rfl, trivial⟩ rfl ?_ | refine alf_v (opx_move (.tup _)) ⟨rfl, trivial⟩ rfl ?_ | refine alf_v (opx_assign (.raw _)) ⟨rfl, trivial⟩ rfl ?_ | refine alf_v opx_not ⟨rfl, trivial⟩ rfl ?_ | refine alf_v (opx_extract _ rfl) ⟨rfl, trivial⟩ rfl ?_ | refine alf_v opx_lss ⟨rfl, rfl, trivial⟩ rfl ?_ | refine alf_v opx_neq ⟨rfl, rfl, trivial⟩ rfl ?_ | refine alf_v opx_bneq ⟨rfl, rfl, trivial⟩ rfl ?_ | refine alf_v (opx_pick_f (.raw _) (by first | rfl | assumption)) ⟨rfl, rfl, trivial⟩ rfl ?_ | refine alf_on rfl rfl rfl (by first | rfl | assumption) ?_ | refine awf_cond_f rfl (by first | rfl | assumption) ?_)
  refine alf_markR [.n a6 b6 ug csg, .d 0 s3 (.sl 2 (smRs (grR ns kind l))) uw, .d 0 w.heap.size (.sl 2 (smRs l)) v0, .d 0 w.heap.size (.sl 1 (stRs ns)) v1] (.tail _ (.tail _ (.head _))) (fun f hf => ?_) (by omega) (c_markStringS ns kx ⟨by omega, by omega⟩ (by omega)) stRs_flat rfl rfl ⟨rfl, rfl, trivial⟩ rfl ?_
  · simp only [List.mem_cons, List.not_mem_nil, or_false] at hf
    rcases hf with rfl | rfl | rfl | rfl
    · exact ⟨(.tail _ (.head _)), .inr (show b5 ≤ a6 by omega)⟩
    · exact ⟨(.tail _ (.tail _ (.tail _ (.head _)))), .inl (show s3 ≤ a5 by omega)⟩
    · exact ⟨(.tail _ (.tail _ (.tail _ (.tail _ (.head _))))), .inl (show w.heap.size ≤ a5 by omega)⟩
    · exact ⟨(.tail _ (.tail _ (.tail _ (.tail _ (.tail _ (.head _)))))), .inl (show w.heap.size ≤ a5 by omega)⟩
  have d3 : decide (kx + (ns.length : Int) < 0) = false := decide_eq_false (by omega)
  repeat (first | refine awf_seq ?_ | refine awf_region ?_ | refine alf_nil ?_ | refine awf_skip ?_ | refine alf_v (opx_move (.raw _)) ⟨rfl, trivial⟩ rfl ?_ | refine alf_v (opx_move (.tup _)) ⟨rfl, trivial⟩ rfl ?_ | refine alf_v (opx_assign (.raw _)) ⟨rfl, trivial⟩ rfl ?_ | refine alf_v opx_not ⟨rfl, trivial⟩ rfl ?_ | refine alf_v (opx_extract _ rfl) ⟨rfl, trivial⟩ rfl ?_ | refine alf_v opx_lss ⟨rfl, rfl, trivial⟩ rfl ?_ | refine alf_v opx_neq ⟨rfl, rfl, trivial⟩ rfl ?_ | refine alf_v opx_bneq ⟨rfl, rfl, trivial⟩ rfl ?_ | refine alf_v (opx_pick_f (.raw _) (by first | rfl | assumption)) ⟨rfl, rfl, trivial⟩ rfl ?_ | refine alf_on rfl rfl rfl (by first | rfl | assumption) ?_ | refine awf_cond_f rfl (by first | rfl | assumption) ?_)
  refine alf_raw cG (.n (.tail _ (.head _)) eg (.d (.tail _ (.tail _ (.head _))) .nil)) rfl ⟨rfl, rfl, trivial⟩ rfl ?_
  repeat (first | refine awf_seq ?_ | refine awf_region ?_ | refine alf_nil ?_ | refine awf_skip ?_ | refine alf_v (opx_move (.raw _)) ⟨rfl, trivial⟩ rfl ?_ | refine alf_v (opx_move (.tup _)) ⟨rfl, trivial⟩ rfl ?_ | refine alf_v (opx_assign (.raw _)) ⟨rfl, trivial⟩ rfl ?_ | refine alf_v opx_not ⟨rfl, trivial⟩ rfl ?_ | refine alf_v (opx_extract _ rfl) ⟨rfl, trivial⟩ rfl ?_ | refine alf_v opx_lss ⟨rfl, rfl, trivial⟩ rfl ?_ | refine alf_v opx_neq ⟨rfl, rfl, trivial⟩ rfl ?_ | refine alf_v opx_bneq ⟨rfl, rfl, trivial⟩ rfl ?_ | refine alf_v (opx_pick_f (.raw _) (by first | rfl | assumption)) ⟨rfl, rfl, trivial⟩ rfl ?_ | refine alf_on rfl rfl rfl (by first | rfl | assumption) ?_ | refine awf_cond_f rfl (by first | rfl | assumption) ?_)
  have hgL := mc_len eg
  have hgn : ∀ n ∈ mcL csg, n ≤ 4 := fun n hn => by
    rw [mcL_eq eg] at hn
    obtain ⟨s, hs, rfl⟩ := List.mem_map.1 hn
    exact hG2 s hs
  have hgE : mkE 1 (mcL csg) ≤ 1 + 4000001 * ((mcL csg).length : Int) := mkE_le fun n hn => by have := hgn n hn; omega
  have hgl : (mcL csg).length = csg.length := by simp [mcL]
  have hg0 := mkE_ge (ns := mcL csg) (k := 1)
  have cH := c_heldSampleS 1 (mcL csg) (by omega) (by omega) (fun n hn => by have := hgn n hn; omega)
  refine alf_markS [.d 0 s3 (.sl 2 (smRs (grR ns kind l))) uw, .d 0 w.heap.size (.sl 2 (smRs l)) v0, .d 0 w.heap.size (.sl 1 (stRs ns)) v1] (.tail _ (.head _)) (fun f hf => ?_) k6 (by omega) (by omega) (by omega) (fun c hc => by have := hG2 _ (mc_mem eg hc); omega) rfl ⟨rfl, rfl, trivial⟩ rfl fun csg' eg' => ?_
  · simp only [List.mem_cons, List.not_mem_nil, or_false] at hf
    rcases hf with rfl | rfl | rfl
    · exact ⟨(.tail _ (.tail _ (.head _))), .inl (show s3 ≤ a6 by omega)⟩
    · exact ⟨(.tail _ (.tail _ (.tail _ (.head _)))), .inl (show w.heap.size ≤ a6 by omega)⟩
    · exact ⟨(.tail _ (.tail _ (.tail _ (.tail _ (.head _))))), .inl (show w.heap.size ≤ a6 by omega)⟩
  have d4 : decide (mkE 1 (mcL csg) < 0) = false := decide_eq_false (by omega)
  have d5 : (!decide (mkE 1 (mcL csg) = mkE 1 (mcL csg))) = false := by simp
  repeat (first | refine awf_seq ?_ | refine awf_region ?_ | refine alf_nil ?_ | refine awf_skip ?_ | refine alf_v (opx_move (.raw _)) ⟨rfl, trivial⟩ rfl ?_ | refine alf_v (opx_move (.tup _)) ⟨rfl, trivial⟩ rfl ?_ | refine alf_v (opx_assign (.raw _)) ⟨rfl, trivial⟩ rfl ?_ | refine alf_v opx_not ⟨rfl, trivial⟩ rfl ?_ | refine alf_v (opx_extract _ rfl) ⟨rfl, trivial⟩ rfl ?_ | refine alf_v opx_lss ⟨rfl, rfl, trivial⟩ rfl ?_ | refine alf_v opx_neq ⟨rfl, rfl, trivial⟩ rfl ?_ | refine alf_v opx_bneq ⟨rfl, rfl, trivial⟩ rfl ?_ | refine alf_v (opx_pick_f (.raw _) (by first | rfl | assumption)) ⟨rfl, rfl, trivial⟩ rfl ?_ | refine alf_on rfl rfl rfl (by first | rfl | assumption) ?_ | refine awf_cond_f rfl (by first | rfl | assumption) ?_)
  refine alf_raw cH (.n (.head _) eg' (.raw rfl .nil)) rfl ⟨rfl, rfl, trivial⟩ rfl ?_
  repeat (first | refine awf_seq ?_ | refine awf_region ?_ | refine alf_nil ?_ | refine awf_skip ?_ | refine alf_v (opx_move (.raw _)) ⟨rfl, trivial⟩ rfl ?_ | refine alf_v (opx_move (.tup _)) ⟨rfl, trivial⟩ rfl ?_ | refine alf_v (opx_assign (.raw _)) ⟨rfl, trivial⟩ rfl ?_ | refine alf_v opx_not ⟨rfl, trivial⟩ rfl ?_ | refine alf_v (opx_extract _ rfl) ⟨rfl, trivial⟩ rfl ?_ | refine alf_v opx_lss ⟨rfl, rfl, trivial⟩ rfl ?_ | refine alf_v opx_neq ⟨rfl, rfl, trivial⟩ rfl ?_ | refine alf_v opx_bneq ⟨rfl, rfl, trivial⟩ rfl ?_ | refine alf_v (opx_pick_f (.raw _) (by first | rfl | assumption)) ⟨rfl, rfl, trivial⟩ rfl ?_ | refine alf_on rfl rfl rfl (by first | rfl | assumption) ?_ | refine awf_cond_f rfl (by first | rfl | assumption) ?_)
  refine alf_toS (c_toSampleS l hL2 hs2) (.d (.tail _ (.tail _ (.head _))) .nil) rfl ⟨rfl, trivial⟩ rfl fun a9 b9 u9 cs9 e9 g9 k9 j9 => ?_
  repeat (first | refine awf_seq ?_ | refine awf_region ?_ | refine alf_nil ?_ | refine awf_skip ?_ | refine alf_v (opx_move (.raw _)) ⟨rfl, trivial⟩ rfl ?_ | refine alf_v (opx_move (.tup _)) ⟨rfl, trivial⟩ rfl ?_ | refine alf_v (opx_assign (.raw _)) ⟨rfl, trivial⟩ rfl ?_ | refine alf_v opx_not ⟨rfl, trivial⟩ rfl ?_ | refine alf_v (opx_extract _ rfl) ⟨rfl, trivial⟩ rfl ?_ | refine alf_v opx_lss ⟨rfl, rfl, trivial⟩ rfl ?_ | refine alf_v opx_neq ⟨rfl, rfl, trivial⟩ rfl ?_ | refine alf_v opx_bneq ⟨rfl, rfl, trivial⟩ rfl ?_ | refine alf_v (opx_pick_f (.raw _) (by first | rfl | assumption)) ⟨rfl, rfl, trivial⟩ rfl ?_ | refine alf_on rfl rfl rfl (by first | rfl | assumption) ?_ | refine awf_cond_f rfl (by first | rfl | assumption) ?_)
  refine alf_row (c_toStringS ns (by omega)) stRs_flat (.d (.tail _ (.tail _ (.tail _ (.tail _ (.head _))))) .nil) rfl ⟨rfl, trivial⟩ rfl fun aa ba uA gA kA jA => ?_
  repeat (first | refine awf_seq ?_ | refine awf_region ?_ | refine alf_nil ?_ | refine awf_skip ?_ | refine alf_v (opx_move (.raw _)) ⟨rfl, trivial⟩ rfl ?_ | refine alf_v (opx_move (.tup _)) ⟨rfl, trivial⟩ rfl ?_ | refine alf_v (opx_assign (.raw _)) ⟨rfl, trivial⟩ rfl ?_ | refine alf_v opx_not ⟨rfl, trivial⟩ rfl ?_ | refine alf_v (opx_extract _ rfl) ⟨rfl, trivial⟩ rfl ?_ | refine alf_v opx_lss ⟨rfl, rfl, trivial⟩ rfl ?_ | refine alf_v opx_neq ⟨rfl, rfl, trivial⟩ rfl ?_ | refine alf_v opx_bneq ⟨rfl, rfl, trivial⟩ rfl ?_ | refine alf_v (opx_pick_f (.raw _) (by first | rfl | assumption)) ⟨rfl, rfl, trivial⟩ rfl ?_ | refine alf_on rfl rfl rfl (by first | rfl | assumption) ?_ | refine awf_cond_f rfl (by first | rfl | assumption) ?_)
  refine alf_grp (c_GroupByN l ns kind hL2 hsb (by omega)) (.n (.tail _ (.head _)) e9 (.r (.head _) (.raw rfl .nil))) rfl ⟨rfl, rfl, rfl, trivial⟩ rfl fun ab bb uh csh eh gB kB jB => ?_
  repeat (first | refine awf_seq ?_ | refine awf_region ?_ | refine alf_nil ?_ | refine awf_skip ?_ | refine alf_v (opx_move (.raw _)) ⟨rfl, trivial⟩ rfl ?_ | refine alf_v (opx_move (.tup _)) ⟨rfl, trivial⟩ rfl ?_ | refine alf_v (opx_assign (.raw _)) ⟨rfl, trivial⟩ rfl ?_ | refine alf_v opx_not ⟨rfl, trivial⟩ rfl ?_ | refine alf_v (opx_extract _ rfl) ⟨rfl, trivial⟩ rfl ?_ | refine alf_v opx_lss ⟨rfl, rfl, trivial⟩ rfl ?_ | refine alf_v opx_neq ⟨rfl, rfl, trivial⟩ rfl ?_ | refine alf_v opx_bneq ⟨rfl, rfl, trivial⟩ rfl ?_ | refine alf_v (opx_pick_f (.raw _) (by first | rfl | assumption)) ⟨rfl, rfl, trivial⟩ rfl ?_ | refine alf_on rfl rfl rfl (by first | rfl | assumption) ?_ | refine awf_cond_f rfl (by first | rfl | assumption) ?_)
  refine alf_raw cG (.n (.head _) eh (.d (.tail _ (.tail _ (.tail _ (.tail _ (.head _))))) .nil)) rfl ⟨rfl, rfl, trivial⟩ rfl ?_
  repeat (first | refine awf_seq ?_ | refine awf_region ?_ | refine alf_nil ?_ | refine awf_skip ?_ | refine alf_v (opx_move (.raw _)) ⟨rfl, trivial⟩ rfl ?_ | refine alf_v (opx_move (.tup _)) ⟨rfl, trivial⟩ rfl ?_ | refine alf_v (opx_assign (.raw _)) ⟨rfl, trivial⟩ rfl ?_ | refine alf_v opx_not ⟨rfl, trivial⟩ rfl ?_ | refine alf_v (opx_extract _ rfl) ⟨rfl, trivial⟩ rfl ?_ | refine alf_v opx_lss ⟨rfl, rfl, trivial⟩ rfl ?_ | refine alf_v opx_neq ⟨rfl, rfl, trivial⟩ rfl ?_ | refine alf_v opx_bneq ⟨rfl, rfl, trivial⟩ rfl ?_ | refine alf_v (opx_pick_f (.raw _) (by first | rfl | assumption)) ⟨rfl, rfl, trivial⟩ rfl ?_ | refine alf_on rfl rfl rfl (by first | rfl | assumption) ?_ | refine awf_cond_f rfl (by first | rfl | assumption) ?_)
  refine alf_raw cH (.n (.tail _ (.tail _ (.tail _ (.head _)))) eg' (.raw rfl .nil)) rfl ⟨rfl, rfl, trivial⟩ rfl ?_
  repeat (first | refine awf_seq ?_ | refine awf_region ?_ | refine alf_nil ?_ | refine awf_skip ?_ | refine alf_v (opx_move (.raw _)) ⟨rfl, trivial⟩ rfl ?_ | refine alf_v (opx_move (.tup _)) ⟨rfl, trivial⟩ rfl ?_ | refine alf_v (opx_assign (.raw _)) ⟨rfl, trivial⟩ rfl ?_ | refine alf_v opx_not ⟨rfl, trivial⟩ rfl ?_ | refine alf_v (opx_extract _ rfl) ⟨rfl, trivial⟩ rfl ?_ | refine alf_v opx_lss ⟨rfl, rfl, trivial⟩ rfl ?_ | refine alf_v opx_neq ⟨rfl, rfl, trivial⟩ rfl ?_ | refine alf_v opx_bneq ⟨rfl, rfl, trivial⟩ rfl ?_ | refine alf_v (opx_pick_f (.raw _) (by first | rfl | assumption)) ⟨rfl, rfl, trivial⟩ rfl ?_ | refine alf_on rfl rfl rfl (by first | rfl | assumption) ?_ | refine awf_cond_f rfl (by first | rfl | assumption) ?_)
  exact awf_ret rfl fun a w' hdf hk hda => (show KF 6 w .ret a w' from ⟨trivial, hdf, da_raw (hda 6), hk⟩)
end Go.Proofs.Ytokhfcfnhgianaa
/-
  Openings of bytes.
-/
namespace Go.Proofs.Ytokhfcfnhgianaa
open Go.ChangeShapes Go.WideShapes Go.ChangeAt Go.RowKit
set_option linter.unusedVariables false
set_option linter.unusedSimpArgs false
end Go.Proofs.Ytokhfcfnhgianaa
/-
  Openings of labels.
-/
namespace Go.Proofs.Ytokhfcfnhgianaa
open Go.ChangeShapes Go.WideShapes Go.ChangeAt Go.RowKit
set_option linter.unusedVariables false
set_option linter.unusedSimpArgs false
end Go.Proofs.Ytokhfcfnhgianaa
/-
  Openings of lists of texts.
-/
namespace Go.Proofs.Ytokhfcfnhgianaa
open Go.ChangeShapes Go.WideShapes Go.ChangeAt Go.RowKit
set_option linter.unusedVariables false
set_option linter.unusedSimpArgs false
section
variable {P : Program} {H : Type} {enc : TypeId × Value → H} {W : World}
theorem stR_inj {x y : Str} (h : stR x = stR y) : x = y := by
  injection h with a b; injection a with a; injection a with a; injection a with a; exact Array.toList_inj.2 a
theorem open_strs {d : Nat} {t e : TypeId} (ht : P.underlying t = some (.slice e)) (hp : plainT P d t = true) (he : P.underlying e = some .string) (hc : P.cellsOf e = 1) {base : Nat} {v : Value} {dd : DataW H} {p : List MemPlace}
    (hval : Value.okWide P W .any base t v) (h : DataW.Trod enc P W 0 (fun _ => true) true t v dd p) :
    ∃ ls : List Str, DC (Zw W) W (.sl 1 (stRs ls)) v ∧ ls.length ≤ maxLen ∧ ∀ x ∈ ls, x.length ≤ maxLen := by
  obtain ⟨a, len, cap, rfl⟩ := okWide_slice ht hval
  obtain ⟨c, h1, h2⟩ := open_one hp rfl h
  obtain ⟨rows, h3, h4, h5⟩ := shp_sl h1 ht
  cases h3
  obtain ⟨ls, rfl⟩ := rows_of (f := stR) (fun r hr => let ⟨p, h, _⟩ := shp_s (h5 r hr) he; ⟨p, h⟩)
  rw [hc] at h2
  refine ⟨ls, h2, by simpa using h4, fun x hx => ?_⟩
  obtain ⟨q, h6, h7⟩ := shp_s (h5 (stR x) (List.mem_map.2 ⟨x, hx, rfl⟩)) he
  rw [stR_inj (x := x) (y := q) h6]
  exact h7
end
end Go.Proofs.Ytokhfcfnhgianaa
/-
  Openings of samples.
-/
namespace Go.Proofs.Ytokhfcfnhgianaa
open Go.ChangeShapes Go.WideShapes Go.ChangeAt Go.RowKit
set_option linter.unusedVariables false
set_option linter.unusedSimpArgs false
section
variable {P : Program} {H : Type} {enc : TypeId × Value → H} {W : World}
def isSlL (P : Program) (t : TypeId) : Bool := match P.underlying t with | some (.slice e) => isLb P e && Nat.beq (P.cellsOf e) 2 | _ => false
theorem shp_slL {t : TypeId} {cvs : List CV} (h : Shp P t cvs) (ht : isSlL P t = true) : ∃ ls : List (Str × Str), cvs = [.sl 2 (lbRs ls)] ∧ ls.length ≤ maxLen ∧ ∀ x ∈ ls, x.1.length ≤ maxLen ∧ x.2.length ≤ maxLen := by
  unfold isSlL at ht
  split at ht
  · rename_i e hu
    simp only [Bool.and_eq_true] at ht
    obtain ⟨rows, rfl, h4, h5⟩ := shp_sl h hu
    obtain ⟨ls, rfl⟩ := rows_of (f := fun p : {x : Str × Str // x.1.length ≤ maxLen ∧ x.2.length ≤ maxLen} => lbR p.1) (fun r hr => by
      obtain ⟨p, h, hp⟩ := shp_lb (h5 r hr) ht.1
      exact ⟨⟨p, hp⟩, h⟩)
    rw [Nat.eq_of_beq_eq_true ht.2]
    refine ⟨ls.map (·.1), by simp [lbRs], by simpa using h4, fun x hx => ?_⟩
    obtain ⟨p, _, rfl⟩ := List.mem_map.1 hx
    exact p.2
  · cases ht
theorem shp_iR {t : TypeId} {cvs : List CV} (h : Shp P t cvs) (ht : P.underlying t = some (.int .i64)) : ∃ n : Int, cvs = [cI n] ∧ -9223372036854775808 ≤ n ∧ n ≤ 9223372036854775807 := by
  cases h with
  | @int t k n hu hw =>
    rw [ht] at hu; cases hu
    exact ⟨n, rfl, by simpa [Lit.wf, IntKind.min, IntKind.max, IntKind.signed, IntKind.bits] using hw⟩
  | str hu => rw [ht] at hu; cases hu
  | slice hu => rw [ht] at hu; cases hu
  | struct hu => rw [ht] at hu; cases hu
/-- a struct of labels and a number -/
def isSm (P : Program) (t : TypeId) : Bool := match P.underlying t with | some (.struct fs) => (match fs.toList with | [f, g] => isSlL P f.type && isI64 P g.type | _ => false) | _ => false
def smFit (s : List (Str × Str) × Int) : Prop := s.1.length ≤ maxLen ∧ (∀ x ∈ s.1, x.1.length ≤ maxLen ∧ x.2.length ≤ maxLen) ∧ -9223372036854775808 ≤ s.2 ∧ s.2 ≤ 9223372036854775807
theorem shp_sm {t : TypeId} {cvs : List CV} (h : Shp P t cvs) (ht : isSm P t = true) : ∃ s : List (Str × Str) × Int, cvs = smR s ∧ smFit s := by
  unfold isSm at ht
  split at ht
  · rename_i fs hu
    have h1 := shp_st h hu
    split at ht
    · rename_i f g he
      rw [he] at h1
      simp only [Bool.and_eq_true] at ht
      obtain ⟨xs, ys, rfl, h2, h3⟩ := shpL_cons h1
      obtain ⟨xs', ys', rfl, h4, h5⟩ := shpL_cons h3
      obtain ⟨a, rfl, ha, ha2⟩ := shp_slL h2 ht.1
      obtain ⟨b, rfl, hb⟩ := shp_iR h4 (isI64_of ht.2)
      rw [shpL_nil h5]
      exact ⟨(a, b), rfl, ha, ha2, hb⟩
    · cases ht
  · cases ht
theorem open_sms {d : Nat} {t e : TypeId} (ht : P.underlying t = some (.slice e)) (hp : plainT P d t = true) (he : isSm P e = true) (hc : P.cellsOf e = 2) {base : Nat} {v : Value} {dd : DataW H} {p : List MemPlace}
    (hval : Value.okWide P W .any base t v) (h : DataW.Trod enc P W 0 (fun _ => true) true t v dd p) :
    ∃ ls : List (List (Str × Str) × Int), DC (Zw W) W (.sl 2 (smRs ls)) v ∧ ls.length ≤ maxLen ∧ ∀ s ∈ ls, smFit s := by
  obtain ⟨a, len, cap, rfl⟩ := okWide_slice ht hval
  obtain ⟨c, h1, h2⟩ := open_one hp rfl h
  obtain ⟨rows, h3, h4, h5⟩ := shp_sl h1 ht
  cases h3
  obtain ⟨ls, rfl⟩ := rows_of (f := fun p : {s : List (Str × Str) × Int // smFit s} => smR p.1) (fun r hr => by
    obtain ⟨s, h, hs⟩ := shp_sm (h5 r hr) he
    exact ⟨⟨s, hs⟩, h⟩)
  rw [hc] at h2
  refine ⟨ls.map (·.1), by simpa [smRs] using h2, by simpa using h4, fun x hx => ?_⟩
  obtain ⟨p, _, rfl⟩ := List.mem_map.1 hx
  exact p.2
end
end Go.Proofs.Ytokhfcfnhgianaa
