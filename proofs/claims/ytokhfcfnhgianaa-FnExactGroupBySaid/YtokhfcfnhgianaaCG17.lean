/- Texts: EngS W133 W134 W135 -/
import Derived.Test.YtokhfcfnhgianaaCG16
/-
  Contracts under a condition on what the handed objects' names stand for; objects without number.
-/
namespace Go.Proofs.Ytokhfcfnhgianaa
open Go.RowKit
set_option linter.unusedVariables false
set_option linter.unusedSimpArgs false

structure ConR (P : Program) (f : FuncId) (args : List AR) (obs : List OB) (R : (Nat → Value) → Prop) (Post : List AR → List OB → Prop) : Prop where
  ok : fnOk P f = true
  run : ∀ (w : World) (ρ : Nat → Value) (Z : Nat → Prop) (vs : List Value), R ρ → Entry w ρ Z args obs vs →
    Calls P f vs.toArray w fun e w' => ∃ rs all us ρ' Z', Post rs all ∧ obs.length ≤ all.length ∧ e = .returned (mkRet us) ∧ Leave w ρ Z obs w' ρ' Z' rs all us
section
variable {P : Program}
/-- A walk of the body gives the contract. -/
theorem con_of_awR {f : FuncId} {fn : Func} {c : Code} {N : Nat} {vars : List ResultVar} {args : List AR} {obs : List OB} {R : (Nat → Value) → Prop} {Post : List AR → List OB → Prop} (l0 : SL) (m0 : OL) (n0 : Nat)
    (hf : P.funcs[f]? = some fn) (hok : fnOk P f = true) (hb : fn.body = some c) (hN : fn.ntmps = N) (hv : fn.results = vars.toArray) (hv4 : vars.length ≤ 4) (hargs : Nat.ble args.length N = true) (hl0 : argL 0 args = l0) (hm0 : obL 0 obs = m0) (hn0 : obs.length = n0)
    (htags : ((argL 0 args).all (fun p => p.2.okTags obs.length) && obs.all (fun o => o.okTags obs.length)) = true)
    (H : ∀ B M w0 ρ0 Z0, R ρ0 → AW P ⟨N, B, M, w0, n0, ρ0, Z0⟩ c (RetG P vars n0 Post) l0 m0 n0) : ConR P f args obs R Post := by
  subst hl0 hm0 hn0
  have hargs := Nat.le_of_ble_eq_true hargs
  refine ⟨hok, fun w ρ Z vs hR he => ?_⟩
  have hvl : vs.length = args.length := drl_len he.args
  simp only [Bool.and_eq_true, List.all_eq_true] at htags
  refine calls_of_wp hf hb ?_
  refine Code.wp_mono ?_ (H w.heap.size (Wr obs ρ) w ρ Z hR _ w ⟨ρ, Z, ?_⟩)
  · rintro e a w' ⟨l, m, n, ⟨hex, rs, all, p, hpost, hlen, hnd, hpl, hpin, htg, hret, hobs⟩, ρ1, Z1, hg⟩
    have main : a.defers = [] ∧ ∃ v, (results fn a.tmps).run P w' = .ok v w' ∧ ∃ rs all us ρ' Z', Post rs all ∧ obs.length ≤ all.length ∧ Ending.returned v = .returned (mkRet us) ∧ Leave w ρ Z obs w' ρ' Z' rs all us := by
      obtain ⟨us, h1, h2⟩ := retS_vals hg hret
      have hr := results_run hv hv4 h1
      simp only [resTags, Bool.and_eq_true] at htg
      simp only [pinB, Bool.and_eq_true, List.all_eq_true] at hpin
      have hlive : ∀ i, (obAt all i).live = true → i < all.length ∧ (lk .gone m (perm p i)).live = true := fun i hi => by
        refine ⟨?_, ?_⟩
        · rcases Nat.lt_or_ge i all.length with h | h
          · exact h
          · simp [obAt, List.getElem?_eq_none h, OB.live] at hi
        · rcases leo_obL hobs i with h | h
          · rw [h] at hi; cases hi
          · rw [h]; cases hob : obAt all i <;> rw [hob] at hi <;> first | rfl | cases hi
      refine ⟨hg.defers, _, hr, rs, all, us, fun t => ρ1 (perm p t), Z1, hpost, hlen, rfl, h2, fun i => ?_, fun i hi => ?_, fun i j g a1 a2 a3 a4 => ?_, fun i g a1 a2 => ?_, ?_, ?_, hg.zlt, htg, hg.os, hg.tape, hg.output, hg.big, hg.old⟩
      · rcases leo_obL hobs i with h | h
        · rw [h]; trivial
        · have := hg.obj (perm p i)
          rw [h] at this
          exact DO.sub this
      · show ρ1 (perm p i) = ρ i
        rw [Nat.eq_of_beq_eq_true (hpin.2 i (List.mem_range.2 hi))]
        exact hg.pin i hi
      · have b1 := hlive i a1
        have b2 := hlive j a2
        exact nodupB_inj hnd i j (by rw [hpl]; exact b1.1) (by rw [hpl]; exact b2.1) (hg.sep _ _ g b1.2 b2.2 a3 a4)
      · exact hg.out (perm p i) g (hlive i a1).2 a2
      · exact hg.zin.1
      · exact hg.zout
    cases e with
    | normal => exact main
    | ret => exact main
    | _ => exact hex.elim
  · refine ⟨?_, rfl, fun t => ?_, fun t => ?_, fun t t' g h1 h2 h3 h4 => ?_, fun t g h1 h2 => ?_, he.zlt, fun t ht => ?_, rfl, rfl, rfl, Nat.le_refl _, fun _ _ _ => rfl, fun _ _ => rfl, fun t ht => ht, ⟨fun _ h => h, he.gl, fun g hg => ⟨he.zlt g hg, fun ⟨i, h1, h2⟩ => he.nz i g h1 h2 hg⟩⟩, fun _ h => .inl h⟩
    · simp [hN, hvl]; omega
    · rw [lk_argL]
      simp only [Nat.zero_le, if_true, Nat.sub_zero]
      by_cases h : t < args.length
      · rw [List.getElem?_eq_getElem h]
        obtain ⟨v, h1, h2⟩ := drl_at he.args (List.getElem?_eq_getElem h)
        have hlt : t < vs.length := by omega
        have e : (vs.toArray ++ Array.replicate (fn.ntmps - vs.toArray.size) undef).getD t undef = v := by
          rw [Array.getD_eq_getD_getElem?, Array.getElem?_append_left (by simpa using hlt)]
          simp [h1]
        rw [e]
        exact h2
      · rw [List.getElem?_eq_none (by omega)]
        trivial
    · rw [lk_obL0]; exact he.objs t
    · rw [lk_obL0] at h1 h2; exact he.sep t t' g h1 h2 h3 h4
    · rw [lk_obL0] at h1; exact ⟨he.nz t g h1 h2, .inr ⟨t, h1, h2⟩⟩
    · refine ⟨?_, fun s hs => ?_, fun s hs => ?_⟩
      · rw [lk_obL0, obAt, List.getD_eq_getElem?_getD, List.getElem?_eq_none ht]; rfl
      · have : ∀ s, ∀ t ∈ (lk AV.dead (argL 0 args) s).tags, t < obs.length := lk_all (p := fun x : AV => ∀ t ∈ x.tags, t < obs.length) (by simp [AV.tags]) fun x hx t ht => by
          have := htags.1 x hx
          simp only [AV.okTags, List.all_eq_true] at this
          exact blt_lt (this t ht)
        exact absurd (this s t hs) (by omega)
      · rw [lk_obL0] at hs
        have h1 : obAt obs s ∈ obs ∨ obAt obs s = .gone := by
          rcases Nat.lt_or_ge s obs.length with h | h
          · left; rw [obAt, List.getD_eq_getElem?_getD, List.getElem?_eq_getElem h]; exact List.getElem_mem h
          · right; rw [obAt, List.getD_eq_getElem?_getD, List.getElem?_eq_none h]; rfl
        rcases h1 with h1 | h1
        · have := htags.2 _ h1
          simp only [OB.okTags, List.all_eq_true] at this
          have := blt_lt (this t hs)
          omega
        · rw [h1] at hs; cases hs
end
section
variable {cx : Cx} {l : SL} {m : OL} {n : Nat}
/-- A slot that holds the very value of a handed object's. -/
theorem le_pinOwn (s t : Nat) {v : Value} (h : lk .dead l s = .raw v) (hv : cx.ρ0 t = v) (ht : t < cx.m0) : Le cx l m n ((s, .own t) :: l) m n := by
  rintro a w ⟨ρ, Z, hg⟩
  refine ⟨ρ, Z, ?_⟩
  rw [show lk AV.dead ((s, .own t) :: l) = lkf (lk .dead l) [(s, .own t)] from lk_cons _ _ _ _]
  have h1 := hg.slot s
  rw [h] at h1
  have h2 : a.tmps.getD s undef = v := da_raw h1
  have h3 : DC Z w (.raw v) (a.tmps.getD s undef) := h1
  refine ⟨hg.size, hg.defers, fun t' => ?_, hg.obj, hg.sep, hg.out, hg.zlt, fun t' ht' => ?_, hg.os, hg.tape, hg.output, hg.big, hg.old, hg.pin, hg.vlo, hg.zin, hg.zout⟩
  · rw [lkf_one]
    split
    · rename_i e; subst e
      exact ⟨by rw [h2, hg.pin t ht, hv], DC.one h3⟩
    · exact hg.slot t'
  · obtain ⟨a1, a2, a3⟩ := hg.virgin t' ht'
    refine ⟨a1, fun s' => ?_, a3⟩
    rw [lkf_one]
    split
    · simp only [AV.tags, AR.tags, A1.tag, Option.toList_some, List.mem_singleton]
      intro e; subst e
      have := hg.vlo t' ht'
      omega
    · exact a2 s'
def LeJ (l : SL) : SL → Prop
  | [] => True
  | (t, x) :: r => lk .dead l t = x ∧ LeJ l r
theorem lej_at {l : SL} : ∀ {l2 : SL}, LeJ l l2 → ∀ t, lk .dead l2 t = .dead ∨ lk .dead l t = lk .dead l2 t
  | [], _, t => .inl rfl
  | (k, x) :: l2, h, t => by
    by_cases e : k = t
    · subst e
      right
      simp only [lk, beq_self, cond_true]
      exact h.1
    · simp only [lk, beq_ne e, cond_false]
      exact lej_at h.2 t
/-- Fewer slots; the objects said otherwise. -/
theorem le_ext {l2 : SL} {m2 : OL} (hl : LeJ l l2) (hm : ∀ t, lk .gone m t = lk .gone m2 t) : Le cx l m n l2 m2 n := by
  rintro a w ⟨ρ, Z, hg⟩
  have hm' : lk OB.gone m = lk OB.gone m2 := funext hm
  rw [hm'] at hg
  refine ⟨ρ, Z, hg.size, hg.defers, fun t => ?_, hg.obj, hg.sep, hg.out, hg.zlt, fun t ht => ?_, hg.os, hg.tape, hg.output, hg.big, hg.old, hg.pin, hg.vlo, hg.zin, hg.zout⟩
  · rcases lej_at hl t with h | h
    · rw [h]; trivial
    · rw [← h]; exact hg.slot t
  · obtain ⟨a1, a2, a3⟩ := hg.virgin t ht
    refine ⟨a1, fun s => ?_, a3⟩
    rcases lej_at hl s with h | h
    · rw [h]; exact fun h => by cases h
    · rw [← h]; exact a2 s
end
theorem perm_range {n i : Nat} (h : i < n) : perm (List.range n) i = i := by
  simp [perm, List.getD, h]
theorem nodupB_range (n : Nat) : nodupB (List.range n) = true := by
  have : ∀ xs : List Nat, xs.Nodup → nodupB xs = true := by
    intro xs
    induction xs with
    | nil => intro _; rfl
    | cons x xs ih =>
      intro h
      rw [List.nodup_cons] at h
      simp only [nodupB, Bool.and_eq_true, List.all_eq_true]
      exact ⟨fun y hy => by rw [beq_ne (show x ≠ y from fun e => by subst e; exact h.1 hy)]; rfl, ih h.2⟩
  exact this _ List.nodup_range
theorem leo_range {m : OL} {f : Nat → Nat} : ∀ {obs : List OB} {k : Nat}, (∀ o ∈ obs, ∀ g, o.sub g = o) → (∀ i (h : i < obs.length), f (k + i) = k + i ∧ lk .gone m (k + i) = obs[i]) → LeO m f (obL k obs)
  | [], _, _, _ => trivial
  | o :: os, k, hs, h => by
    obtain ⟨h1, h2⟩ := h 0 (by simp)
    simp only [Nat.add_zero, List.getElem_cons_zero] at h1 h2
    refine ⟨by rw [h1, h2, hs o (.head _)], leo_range (fun o ho => hs o (.tail _ ho)) fun i hi => ?_⟩
    have := h (i + 1) (by simpa using hi)
    simp only [List.getElem_cons_succ] at this
    rw [show k + 1 + i = k + (i + 1) by omega]
    exact this
/-- An end that hands back what was handed, all of it rows, and a number. -/
theorem ret_allRows {P : Program} {Post : List AR → List OB → Prop} {e : Exit} {l : SL} {m : OL} {n t : Nat} {v : Value} {all : List OB} (he : isEnd e) (h : lk .dead l t = .raw v) (hrow : ∀ o ∈ all, ∃ wd e rows, o = .row wd e rows)
    (hm : ∀ i (h : i < all.length), lk .gone m i = all[i]) (hp : Post [.one (.c (.raw v))] all) : RetG P [.tmp t] all.length Post e l m n := by
  refine retg_mk he [.one (.c (.raw v))] all (List.range all.length) hp (Nat.le_refl _) (nodupB_range _) List.length_range ?_ ?_ ⟨h, trivial⟩ ?_
  · simp only [pinB, List.length_range, Bool.and_eq_true, List.all_eq_true, List.mem_range]
    exact ⟨Nat.ble_self_eq_true _, fun i hi => by rw [perm_range hi]; exact beq_self i⟩
  · simp only [resTags, Bool.and_eq_true, List.all_eq_true]
    refine ⟨by simp [AR.tags, A1.tag], fun o ho => ?_⟩
    obtain ⟨wd, e, rows, rfl⟩ := hrow o ho
    rfl
  · refine leo_range (fun o ho g => ?_) fun i hi => ?_
    · obtain ⟨wd, e, rows, rfl⟩ := hrow o ho
      rfl
    · rw [Nat.zero_add]
      exact ⟨perm_range hi, hm i hi⟩
end Go.Proofs.Ytokhfcfnhgianaa
/-
  markSampleS.
-/
namespace Go.Proofs.Ytokhfcfnhgianaa
open Go.RowKit
set_option linter.unusedVariables false
set_option linter.unusedSimpArgs false
attribute [local irreducible] AL AW OpX Le AD

/-- A sample: its slice of labels, and what it reads as. -/
abbrev Mc := Value × Sm
def mcR (c : Mc) : List CV := [.raw c.1, cI c.2.2]
def mcRs (cs : List Mc) : List (List CV) := cs.map mcR
theorem mcRs_len {cs : List Mc} : (mcRs cs).length = cs.length := by simp [mcRs]
theorem mcRs_at {cs : List Mc} {k : Nat} {c : Mc} (h : cs[k]? = some c) : (mcRs cs)[k]? = some (mcR c) := by simp [mcRs, h]
theorem mcRs_set {cs : List Mc} {k : Nat} {c : Mc} : (mcRs cs).set k (mcR c) = mcRs (cs.set k c) := by simp [mcRs, List.map_set]
def mcO (c : Mc) : OB := .row 2 60 (lbRs c.2.1)
def mcL (cs : List Mc) : List Nat := cs.map fun c => c.2.1.length
/-- The first j marked. -/
def mcK (k : Int) : Nat → List Mc → List Mc
  | 0, cs => cs
  | _ + 1, [] => []
  | j + 1, c :: cs => (c.1, mkL k c.2.1.length, k + 2 * (c.2.1.length : Int)) :: mcK (k + 2 * (c.2.1.length : Int) + 1) j cs
theorem mcK_len : ∀ {j : Nat} {cs : List Mc} {k : Int}, (mcK k j cs).length = cs.length
  | 0, _, _ => rfl
  | _ + 1, [], _ => rfl
  | j + 1, c :: cs, k => by simp [mcK, mcK_len]
theorem mcK_fst : ∀ {j : Nat} {cs : List Mc} {k : Int}, (mcK k j cs).map (·.1) = cs.map (·.1)
  | 0, _, _ => rfl
  | _ + 1, [], _ => rfl
  | j + 1, c :: cs, k => by simp [mcK, mcK_fst]
theorem mcK_at : ∀ {j : Nat} {cs : List Mc} {k : Int} {c : Mc}, cs[j]? = some c → (mcK k j cs)[j]? = some c
  | 0, _, _, _, h => h
  | _ + 1, [], _, _, h => by simp at h
  | j + 1, c :: cs, k, c', h => by
    simp only [mcK, List.getElem?_cons_succ] at h ⊢
    exact mcK_at h
theorem mcK_succ : ∀ {j : Nat} {cs : List Mc} {k : Int} {c : Mc}, cs[j]? = some c →
    mcK k (j + 1) cs = (mcK k j cs).set j (c.1, mkL (mkE k ((mcL cs).take j)) c.2.1.length, mkE k ((mcL cs).take j) + 2 * (c.2.1.length : Int))
  | 0, [], _, _, h => by simp at h
  | 0, c :: cs, k, c', h => by simp at h; subst h; simp [mcK, mkE, mcL]
  | _ + 1, [], _, _, h => by simp at h
  | j + 1, c :: cs, k, c', h => by
    simp only [List.getElem?_cons_succ] at h
    have ih := mcK_succ (k := k + 2 * (c.2.1.length : Int) + 1) h
    rw [mcK, ih]
    simp [mcK, mcL, mkE]
theorem mcK_all : ∀ {cs : List Mc} {k : Int}, (mcK k cs.length cs).map (·.2) = mkS k (mcL cs)
  | [], _ => rfl
  | c :: cs, k => by
    have ih := mcK_all (cs := cs) (k := k + 2 * (c.2.1.length : Int) + 1)
    simp only [List.length_cons, mcK, List.map_cons, ih, mcL, mkS]
theorem mkE_take_le {ns : List Nat} {k : Int} {j : Nat} : mkE k (ns.take j) ≤ mkE k ns := by
  have e : ∀ (xs ys : List Nat) (v : Int), mkE v (xs ++ ys) = mkE (mkE v xs) ys := by
    intro xs
    induction xs with
    | nil => intro ys v; rfl
    | cons x xs ih => intro ys v; simp only [List.cons_append, mkE]; exact ih ys _
  have h := e (ns.take j) (ns.drop j) k
  rw [List.take_append_drop] at h
  rw [h]
  have := mkE_ge (ns := ns.drop j) (k := mkE k (ns.take j))
  omega
theorem lk_mc {o : OB} {cs : List Mc} {j : Nat} : lk .gone ((0, o) :: obL 1 (cs.map mcO)) (j + 1) = ((cs[j]?).map mcO).getD .gone := by
  have e : lk .gone ((0, o) :: obL 1 (cs.map mcO)) (j + 1) = lk .gone (obL 1 (cs.map mcO)) (j + 1) := rfl
  rw [e, lk_obL, if_pos (by omega), Nat.add_sub_cancel, List.getElem?_map]
def McR (cs : List Mc) (ρ : Nat → Value) : Prop := ∀ j c, cs[j]? = some c → ρ (j + 1) = c.1
def mcObs (cs : List Mc) : List OB := .row 2 44 (mcRs cs) :: cs.map mcO
theorem mcObs_len {cs : List Mc} : (mcObs cs).length = cs.length + 1 := by simp [mcObs]
theorem mcObs_row {cs : List Mc} : ∀ o ∈ mcObs cs, ∃ wd e rows, o = .row wd e rows := by
  intro o ho
  rcases List.mem_cons.1 ho with rfl | ho
  · exact ⟨_, _, _, rfl⟩
  · obtain ⟨c, _, rfl⟩ := List.mem_map.1 ho
    exact ⟨_, _, _, rfl⟩
theorem mcObs_lk {cs : List Mc} (i : Nat) (h : i < (mcObs cs).length) : lk .gone ((0, .row 2 44 (mcRs cs)) :: obL 1 (cs.map mcO)) i = (mcObs cs)[i] := by
  cases i with
  | zero => rfl
  | succ i =>
    rw [lk_mc]
    rw [mcObs_len] at h
    have hi : i < cs.length := by omega
    simp [mcObs, hi]
theorem mcObs_tags {cs : List Mc} {k : Int} : ((argL 0 [.one (.own 0), rI k]).all (fun p => p.2.okTags (mcObs cs).length) && (mcObs cs).all (fun o => o.okTags (mcObs cs).length)) = true := by
  simp only [Bool.and_eq_true, List.all_eq_true]
  refine ⟨fun p hp => ?_, fun o ho => ?_⟩
  · simp only [argL, List.mem_cons, List.not_mem_nil, or_false] at hp
    rcases hp with rfl | rfl
    · simp only [AV.okTags, AV.tags, AR.tags, A1.tag, Option.toList_some, List.all_cons, List.all_nil, Bool.and_true]
      rw [mcObs_len]; rfl
    · rfl
  · obtain ⟨_, _, _, rfl⟩ := mcObs_row o ho
    rfl
theorem c_markSampleS (cs : List Mc) (k : Int) (hk : 1 ≤ k) (hE : mkE k (mcL cs) ≤ 10000000000) (hL : cs.length ≤ 10000000) (hn : ∀ c ∈ cs, c.2.1.length ≤ 10000000) :
    ConR Try.prog 12 [.one (.own 0), rI k] (mcObs cs) (McR cs) (fun rs all => rs = [rI (mkE k (mcL cs))] ∧ all = mcObs (mcK k cs.length cs)) := by
  refine con_of_awR (vars := [.tmp 4]) [(0, .own 0), (1, .r (rI k))] ((0, .row 2 44 (mcRs cs)) :: obL 1 (cs.map mcO)) (cs.length + 1) Try.func12 (by kernel_rfl) rfl Try.ntmps12 rfl (by decide) rfl rfl rfl mcObs_len mcObs_tags ?_; intro B M w0 ρ0 Z0 hR
  repeat' (first | (refine is_al ?_; (first | (refine is_assign ?_; refine al_v (opx_assign (.raw _)) ⟨rfl, trivial⟩ trivial rfl ?_) | refine al_nil ?_)) | (refine is_aw ?_; (first | refine aw_seq ?_ | refine aw_region ?_ | refine aw_block ?_)))
  refine aw_loop (γ := Nat) (fun j => [(0, .own 0), (1, .i (mkE k ((mcL cs).take j))), (5, .i (j : Int))]) (fun j => (0, .row 2 44 (mcRs (mcK k j cs))) :: obL 1 ((mcK k j cs).map mcO)) (fun _ => cs.length + 1) (fun j => j ≤ cs.length) (fun j => cs.length - j) 0 (Nat.zero_le _) (le_ext ⟨rfl, rfl, rfl, trivial⟩ fun t => rfl) ?_
  intro j hj
  have hm1 := mkE_mono (ns := mcL cs) (k := k) j
  have hm2 := mkE_take_le (ns := mcL cs) (k := k) (j := j)
  have hdl := mcRs_len (cs := mcK k j cs)
  rw [mcK_len] at hdl
  rcases Nat.lt_or_ge j cs.length with hlt | hge
  · have hc1 : decide ((j : Int) < ((mcRs (mcK k j cs)).length : Int)) = true := decide_eq_true (by omega)
    obtain ⟨c, hc⟩ : ∃ c, cs[j]? = some c := ⟨_, List.getElem?_eq_getElem hlt⟩
    have hds := mcK_at (k := k) hc
    have hs := mcK_succ (k := k) hc
    have hx : mkE k ((mcL cs).take (j + 1)) = mkE k ((mcL cs).take j) + 2 * (c.2.1.length : Int) + 1 := mkE_take (by simp [mcL, hc])
    have hx2 := mkE_take_le (ns := mcL cs) (k := k) (j := j + 1)
    have hcn := hn c (List.mem_of_getElem? hc)
    have hρ := hR j c hc
    generalize mkE k ((mcL cs).take j) = v at hm1 hm2 hs hx ⊢
    generalize mcK k j cs = ds at hdl hc1 hds hs ⊢
    have har := mcRs_at hds
    have hjl : j < (mcRs ds).length := by omega
    have hm : lk .gone ((0, .row 2 44 (mcRs ds)) :: obL 1 (ds.map mcO)) (j + 1) = .row 2 60 (lbRs c.2.1) := by rw [lk_mc, hds]; rfl
    repeat' (first | (refine is_al ?_; (first | (refine is_move ?_; (first | refine al_v (opx_move (.raw _)) ⟨rfl, trivial⟩ trivial rfl ?_ | refine al_v (opx_move (.own _)) ⟨rfl, trivial⟩ trivial rfl ?_)) | (refine is_bin ?_; refine al_v opx_lss ⟨rfl, rfl, trivial⟩ trivial rfl ?_) | (refine is_load ?_; refine al_v (opx_ld_el (by assumption) rfl) ⟨rfl, trivial⟩ ⟨rfl, trivial⟩ rfl ?_) | (refine is_fa ?_; refine al_v opx_fa_el ⟨rfl, trivial⟩ trivial rfl ?_) | (refine is_bi ?_; refine al_v opx_len_own ⟨rfl, trivial⟩ ⟨rfl, trivial⟩ rfl ?_) | (refine is_ia ?_; refine al_v (opx_ia_own2 hjl (by omega)) ⟨rfl, rfl, trivial⟩ ⟨rfl, trivial⟩ rfl ?_) | refine al_nil ?_)) | (refine is_aw ?_; (first | refine aw_seq ?_ | refine aw_region ?_ | refine aw_skip ?_ | refine aw_block ?_ | (refine is_cond ?_; refine aw_cond_t rfl (by assumption) ?_))))
    refine al_le (le_pinOwn 16 (j + 1) rfl hρ (Nat.succ_lt_succ hlt)) ?_
    refine al_mark (j + 1) hm (Nat.ble_eq.mpr (by omega)) (by (repeat (first | exact .nil | refine .one rfl rfl ?_ | refine .tag rfl ?_ | refine .froz rfl rfl ?_ | refine .rnil rfl ?_ | refine .agg rfl (by (repeat (first | exact .nil | refine .cons (.same rfl) ?_ | refine .cons (.froz rfl) ?_ | refine .cons (.rnil) ?_)); (first | done | fail)) ?_)); (first | done | fail)) rfl (c_markLabelS c.2.1 v ⟨by omega, by omega⟩ (by omega)) ?_
    repeat' (first | (refine is_al ?_; (first | (refine is_move ?_; (first | refine al_v (opx_move (.raw _)) ⟨rfl, trivial⟩ trivial rfl ?_ | refine al_v (opx_move (.own _)) ⟨rfl, trivial⟩ trivial rfl ?_)) | (refine is_bin ?_; refine al_v (opx_add (by unfold InR; omega)) ⟨rfl, rfl, trivial⟩ trivial rfl ?_) | (refine is_fa ?_; refine al_v opx_fa_el ⟨rfl, trivial⟩ trivial rfl ?_) | (refine is_assign ?_; refine al_v (opx_assign (.raw _)) ⟨rfl, trivial⟩ trivial rfl ?_) | (refine is_ia ?_; refine al_v (opx_ia_own2 hjl (by omega)) ⟨rfl, rfl, trivial⟩ ⟨rfl, trivial⟩ rfl ?_) | refine al_nil ?_ | refine al_s (opx_st1_el (rows := mcRs ds) (row := mcR c) har (by omega)) ⟨rfl, rfl, trivial⟩ ⟨rfl, trivial⟩ ?_)) | (refine is_ad ?_; refine al_s (opx_st1_el (rows := mcRs ds) (row := mcR c) har (by omega)) ⟨rfl, rfl, trivial⟩ ⟨rfl, trivial⟩ ?_) | (refine is_aw ?_; (first | refine aw_seq ?_ | refine aw_region ?_)) | refine thn_n ?_)
    refine ⟨j + 1, hlt, by omega, le_ext ⟨rfl, by rw [hx]; rfl, rfl, trivial⟩ fun t => ?_⟩
    rw [hs, ← mcRs_set]
    cases t with
    | zero => rfl
    | succ i =>
      have e1 : lk .gone ((0, .row 2 44 ((mcRs ds).set j (mcR (c.1, mkL v c.2.1.length, v + 2 * (c.2.1.length : Int))))) :: (j + 1, .row 2 60 (lbRs (mkL v c.2.1.length))) :: (0, .row 2 44 (mcRs ds)) :: obL 1 (ds.map mcO)) (i + 1) = lk .gone ((j + 1, .row 2 60 (lbRs (mkL v c.2.1.length))) :: (0, .row 2 44 (mcRs ds)) :: obL 1 (ds.map mcO)) (i + 1) := rfl
      refine e1.trans ?_
      rw [lk_mc, List.getElem?_set]
      by_cases e : j = i
      · subst e
        have hjd : j < ds.length := by rw [mcRs_len] at hjl; exact hjl
        rw [if_pos rfl, if_pos hjd]
        simp only [lk, beq_self, cond_true]
        rfl
      · rw [if_neg e]
        have e2 : lk .gone ((j + 1, .row 2 60 (lbRs (mkL v c.2.1.length))) :: (0, .row 2 44 (mcRs ds)) :: obL 1 (ds.map mcO)) (i + 1) = lk .gone ((0, .row 2 44 (mcRs ds)) :: obL 1 (ds.map mcO)) (i + 1) := by
          simp only [lk, beq_ne (show j + 1 ≠ i + 1 by omega), cond_false]
        rw [e2, lk_mc]
  · have hc1 : decide ((j : Int) < ((mcRs (mcK k j cs)).length : Int)) = false := decide_eq_false (by omega)
    obtain rfl : j = cs.length := by omega
    rw [List.take_of_length_le (by simp [mcL])]
    repeat' (first | (refine is_al ?_; (first | (refine is_move ?_; (first | refine al_v (opx_move (.raw _)) ⟨rfl, trivial⟩ trivial rfl ?_ | refine al_v (opx_move (.own _)) ⟨rfl, trivial⟩ trivial rfl ?_)) | (refine is_bin ?_; refine al_v opx_lss ⟨rfl, rfl, trivial⟩ trivial rfl ?_) | (refine is_assign ?_; refine al_v (opx_assign (.raw _)) ⟨rfl, trivial⟩ trivial rfl ?_) | (refine is_bi ?_; refine al_v opx_len_own ⟨rfl, trivial⟩ ⟨rfl, trivial⟩ rfl ?_) | refine al_nil ?_)) | (refine is_aw ?_; (first | refine aw_seq ?_ | refine aw_region ?_ | refine aw_ret ?_ | refine aw_exit ?_ | (refine is_cond ?_; refine aw_cond_f rfl (by assumption) ?_))))
    have hl : (mcObs (mcK k cs.length cs)).length = cs.length + 1 := by rw [mcObs_len, mcK_len]
    rw [← hl]
    exact ret_allRows trivial rfl mcObs_row mcObs_lk ⟨rfl, rfl⟩
end Go.Proofs.Ytokhfcfnhgianaa
/-
  What lies in memory, said apart: samples that own their labels, rows, data.
-/
namespace Go.Proofs.Ytokhfcfnhgianaa
open Go.RowKit
set_option linter.unusedVariables false
set_option linter.unusedSimpArgs false
attribute [local irreducible] AL AW OpX Le AD

def Iv (a b g : Nat) : Prop := a ≤ g ∧ g < b
def RowAt (I : Nat → Prop) (w : World) (v : Value) (wd : Nat) (e : TypeId) (rows : List (List CV)) : Prop :=
  DO (fun _ => v) (fun _ => False) w 0 (.row wd e rows) ∧ ∀ g, blk v = some g → I g
theorem RowAt.mono {I : Nat → Prop} {w w' : World} {v : Value} {wd : Nat} {e : TypeId} {rows : List (List CV)} (h : RowAt I w v wd e rows) (hs : ∀ g, I g → w'.heap[g]? = w.heap[g]?) : RowAt I w' v wd e rows :=
  ⟨DO.mono (fun _ h => h) (fun g hg => hg.elim) rfl (fun _ _ => rfl) (fun _ g hg => hs g (h.2 g hg)) h.1, h.2⟩
theorem RowAt.dc {I : Nat → Prop} {w : World} {v : Value} {wd : Nat} {e : TypeId} {rows : List (List CV)} (h : RowAt I w v wd e rows) : DC I w (.sl wd rows) v := by
  obtain ⟨h1, h2⟩ := h
  obtain ⟨hw, us, hd, ho⟩ := do_row.1 h1
  have hd' : DL I w rows.flatten us := hd.mono (fun _ h => h.elim) (Same.refl _ _)
  rcases ho with ⟨h4, h5, rfl⟩ | ⟨g, off, cap, cur, h4, h5, h6, h7, h8, h9, h10⟩
  · have : rows = [] := List.eq_nil_of_length_eq_zero h5
    subst this
    have h4' : v = _ := h4
    rw [h4']; exact .nil wd none 0 (Nat.zero_le _)
  · have h4' : v = _ := h4
    have hg : I g := h2 g (by rw [h4']; rfl)
    rw [h4']
    refine .sl wd rows g off _ cap us rfl hw hg h6 h7 hd'.len (fun k u hu => ?_) (fun k hk hk' => hd'.at k hk hk')
    rw [World.cell?, h5]
    simpa using h10 k u hu
theorem RowAt.one {I : Nat → Prop} {w : World} {v : Value} {wd : Nat} {e : TypeId} {rows : List (List CV)} (h : RowAt I w v wd e rows) : v.oneCell' = true := h.dc.one
def SepV (vs : List Value) : Prop := ∀ (i j : Nat) (a b : Value) (g : Nat), vs[i]? = some a → vs[j]? = some b → blk a = some g → blk b = some g → i = j
structure NestC (I : Nat → Prop) (w : World) (v : Value) (cs : List Mc) : Prop where
  out : RowAt I w v 2 44 (mcRs cs)
  inn : ∀ c ∈ cs, RowAt I w c.1 2 60 (lbRs c.2.1)
  sep : SepV (v :: cs.map (·.1))
theorem NestC.mono {I : Nat → Prop} {w w' : World} {v : Value} {cs : List Mc} (h : NestC I w v cs) (hs : ∀ g, I g → w'.heap[g]? = w.heap[g]?) : NestC I w' v cs :=
  ⟨h.out.mono hs, fun c hc => (h.inn c hc).mono hs, h.sep⟩
theorem dl_mc {F I : Nat → Prop} {w : World} : ∀ {cs : List Mc} {us : List Value}, DL F w (mcRs cs).flatten us → (∀ c ∈ cs, DC I w (.sl 2 (lbRs c.2.1)) c.1) → DL I w (smRs (cs.map (·.2))).flatten us
  | [], [], _, _ => trivial
  | [], _ :: _, h, _ => h.elim
  | c :: cs, [], h, _ => by
    have h' : DL F w (.raw c.1 :: cI c.2.2 :: (mcRs cs).flatten) [] := h
    exact h'.elim
  | c :: cs, [_], h, _ => by
    have h' : DL F w (.raw c.1 :: cI c.2.2 :: (mcRs cs).flatten) [_] := h
    exact h'.2.elim
  | c :: cs, u1 :: u2 :: us, h, hc => by
    have h' : DL F w (.raw c.1 :: cI c.2.2 :: (mcRs cs).flatten) (u1 :: u2 :: us) := h
    obtain ⟨h1, h2, h3⟩ := h'
    show DL I w (.sl 2 (lbRs c.2.1) :: cI c.2.2 :: (smRs (cs.map (·.2))).flatten) (u1 :: u2 :: us)
    refine ⟨?_, ?_, dl_mc h3 fun c' hc' => hc c' (.tail _ hc')⟩
    · cases h1; exact hc c (.head _)
    · cases h2; exact DC.raw _ ‹_›
theorem NestC.dc {I : Nat → Prop} {w : World} {v : Value} {cs : List Mc} (h : NestC I w v cs) : DC I w (.sl 2 (smRs (cs.map (·.2)))) v := by
  obtain ⟨h1, h2⟩ := h.out
  obtain ⟨hw, us, hd, ho⟩ := do_row.1 h1
  have hd' : DL I w (smRs (cs.map (·.2))).flatten us := dl_mc hd fun c hc => (h.inn c hc).dc
  rcases ho with ⟨h4, h5, rfl⟩ | ⟨g, off, cap, cur, h4, h5, h6, h7, h8, h9, h10⟩
  · have : cs = [] := List.eq_nil_of_length_eq_zero (by rw [← mcRs_len (cs := cs)]; exact h5)
    subst this
    have h4' : v = _ := h4
    rw [h4']; exact .nil 2 none 0 (Nat.zero_le _)
  · have h4' : v = _ := h4
    have hg : I g := h2 g (by rw [h4']; rfl)
    have hlen : (mcRs cs).length = cs.length := mcRs_len
    rw [hlen] at h4' h6
    rw [h4']
    refine .sl 2 _ g off _ cap us (by rw [smRs_len, List.length_map]) (fun r hr => ?_) hg h6 h7 hd'.len (fun k u hu => ?_) (fun k hk hk' => hd'.at k hk hk')
    · obtain ⟨c, _, rfl⟩ := List.mem_map.1 hr; rfl
    · rw [World.cell?, h5]
      simpa using h10 k u hu
theorem blk_og {Z : Nat → Prop} {w : World} {e : TypeId} {wd : Nat} {og : Option Nat} {rows : List (List CV)} {v : Value} {g : Nat} (h : DC Z w (.blk e wd og rows) v) (hb : blk v = some g) : og = some g ∧ g < w.heap.size := by
  cases h with
  | blkn => cases hb
  | blk _ _ _ g' off n cap cur us hn hw hz hh hc hm hr hl hcell hd => cases hb; exact ⟨rfl, (Array.getElem?_eq_some_iff.1 hh).1⟩
theorem blk_row {Z I : Nat → Prop} {w : World} {e : TypeId} {wd : Nat} {og : Option Nat} {rows : List (List CV)} {v : Value} (h : DC Z w (.blk e wd og rows) v) (hf : flatRows rows) (hI : ∀ g, og = some g → I g) : RowAt I w v wd e rows := by
  refine ⟨?_, fun g hg => hI g (blk_og h hg).1⟩
  cases h with
  | blkn => exact ⟨(fun r hr => by cases hr), .inl ⟨rfl, rfl⟩⟩
  | blk _ _ _ g' off n cap cur us hn hw hz hh hc hm hr hl hcell hd =>
    subst hn
    refine ⟨hw, .inr ⟨g', off, cap, cur, us, rfl, hh, hc, hm, hr, (DL.mk hl hd).flat fun c hc => ?_, hcell⟩⟩
    obtain ⟨r, hr, hc⟩ := List.mem_flatten.1 hc
    exact hf r hr c hc
theorem dl_ns {Z : Nat → Prop} {w : World} : ∀ {ds : List Nd} {us : List Value}, DL Z w (nsRs ds).flatten us →
    ∃ cs : List Mc, cs.map (·.2) = ds.map (·.2) ∧ DL (fun _ => False) w (mcRs cs).flatten us ∧ ∀ (j : Nat) (c : Mc) (d : Nd), cs[j]? = some c → ds[j]? = some d → c.2 = d.2 ∧ DC Z w (.blk 60 2 d.1 (lbRs d.2.1)) c.1
  | [], [], _ => ⟨[], rfl, trivial, fun j c d h => by simp at h⟩
  | [], _ :: _, h => h.elim
  | d :: ds, [], h => by
    have h' : DL Z w (.blk 60 2 d.1 (lbRs d.2.1) :: cI d.2.2 :: (nsRs ds).flatten) [] := h
    exact h'.elim
  | d :: ds, [_], h => by
    have h' : DL Z w (.blk 60 2 d.1 (lbRs d.2.1) :: cI d.2.2 :: (nsRs ds).flatten) [_] := h
    exact h'.2.elim
  | d :: ds, u1 :: u2 :: us, h => by
    have h' : DL Z w (.blk 60 2 d.1 (lbRs d.2.1) :: cI d.2.2 :: (nsRs ds).flatten) (u1 :: u2 :: us) := h
    obtain ⟨h1, h2, h3⟩ := h'
    obtain ⟨cs, h4, h5, h6⟩ := dl_ns h3
    refine ⟨(u1, d.2) :: cs, by simp [h4], ?_, fun j c d' hc hd' => ?_⟩
    · show DL (fun _ => False) w (.raw u1 :: cI d.2.2 :: (mcRs cs).flatten) (u1 :: u2 :: us)
      exact ⟨DC.raw u1 (DC.one h1), by cases h2; exact DC.raw _ ‹_›, h5⟩
    · cases j with
      | zero => simp at hc hd'; subst hc hd'; exact ⟨rfl, h1⟩
      | succ j =>
        simp only [List.getElem?_cons_succ] at hc hd'
        exact h6 j c d' hc hd'
theorem NdG_inj : ∀ {ds : List Nd}, (NdG ds).Nodup → ∀ {i j : Nat} {d d' : Nd} {g : Nat}, ds[i]? = some d → ds[j]? = some d' → d.1 = some g → d'.1 = some g → i = j
  | [], _, i, j, d, d', g, h, _, _, _ => by simp at h
  | x :: ds, hn, i, j, d, d', g, hi, hj, h1, h2 => by
    have hmem : ∀ (k : Nat) (e : Nd), ds[k]? = some e → e.1 = some g → g ∈ NdG ds := fun k e he hg => by
      simp only [NdG, List.mem_filterMap]
      exact ⟨e, List.mem_of_getElem? he, hg⟩
    have hn2 : (NdG ds).Nodup := by
      obtain ⟨og, s⟩ := x
      cases og with
      | none => exact hn
      | some g' => exact (List.nodup_cons.1 hn).2
    cases i with
    | zero =>
      cases j with
      | zero => rfl
      | succ j =>
        simp only [List.getElem?_cons_zero, Option.some.injEq, List.getElem?_cons_succ] at hi hj
        subst hi
        obtain ⟨og, s⟩ := x
        dsimp only at h1
        subst h1
        exact absurd (hmem j d' hj h2) (List.nodup_cons.1 hn).1
    | succ i =>
      cases j with
      | zero =>
        simp only [List.getElem?_cons_zero, Option.some.injEq, List.getElem?_cons_succ] at hi hj
        subst hj
        obtain ⟨og, s⟩ := x
        dsimp only at h2
        subst h2
        exact absurd (hmem i d hi h1) (List.nodup_cons.1 hn).1
      | succ j =>
        simp only [List.getElem?_cons_succ] at hi hj
        rw [NdG_inj hn2 hi hj h1 h2]
theorem nest_of {w w' : World} {ρ ρ' : Nat → Value} {Z Z' : Nat → Prop} {rs : List AR} {us : List Value} {ds : List Nd} (hl : Leave w ρ Z [] w' ρ' Z' rs [.row 2 44 (nsRs ds)] us) (hok : NdOk w.heap.size ds) :
    ∃ cs : List Mc, cs.map (·.2) = ds.map (·.2) ∧ NestC (Iv w.heap.size w'.heap.size) w' (ρ' 0) cs := by
  have hob : DO ρ' Z' w' 0 (.row 2 44 (nsRs ds)) := hl.objs 0
  obtain ⟨hw, vs, hd, ho⟩ := do_row.1 hob
  obtain ⟨cs, h1, h2, h3⟩ := dl_ns hd
  have hcl : cs.length = ds.length := by have := congrArg List.length h1; simpa using this
  have hat : ∀ (j : Nat) (c : Mc), cs[j]? = some c → ∃ d, ds[j]? = some d := fun j c hc => by
    have := (List.getElem?_eq_some_iff.1 hc).1
    exact ⟨_, List.getElem?_eq_getElem (by omega)⟩
  have hout : ∀ g, blk (ρ' 0) = some g → ¬ Z' g ∧ w.heap.size ≤ g ∧ g < w'.heap.size := fun g hg => by
    obtain ⟨a1, a2⟩ := hl.out 0 g rfl hg
    refine ⟨a1, a2.resolve_right (fun h => no_wr rfl h), ?_⟩
    rcases ho with ⟨h4, _⟩ | ⟨g', off, cap, cur, h4, h5, _⟩
    · rw [h4] at hg; cases hg
    · rw [h4] at hg; cases hg; exact (Array.getElem?_eq_some_iff.1 h5).1
  refine ⟨cs, h1, ⟨do_row.2 ⟨fun r hr => by obtain ⟨c, _, rfl⟩ := List.mem_map.1 hr; rfl, vs, h2, ?_⟩, fun g hg => (hout g hg).2⟩, fun c hc => ?_, ?_⟩
  · have e : (mcRs cs).length = (nsRs ds).length := by rw [mcRs_len, nsRs_len, hcl]
    rw [e]; exact ho
  · obtain ⟨j, hj⟩ := List.mem_iff_getElem?.1 hc
    obtain ⟨d, hd'⟩ := hat j c hj
    obtain ⟨e, hdc⟩ := h3 j c d hj hd'
    rw [e]
    refine blk_row hdc lbRs_flat fun g hg => ⟨hok.2 g ?_, hl.zlt g (hdc.zog hg)⟩
    simp only [NdG, List.mem_filterMap]
    exact ⟨d, List.mem_of_getElem? hd', hg⟩
  · intro i j a b g hi hj ha hb
    have hin : ∀ (i : Nat) (a : Value), (cs.map (·.1))[i]? = some a → blk a = some g → ∃ d, ds[i]? = some d ∧ d.1 = some g ∧ Z' g := fun i a hi ha => by
      rw [List.getElem?_map] at hi
      cases hc : cs[i]? with
      | none => rw [hc] at hi; cases hi
      | some c =>
        rw [hc] at hi
        cases hi
        obtain ⟨d, hd'⟩ := hat i c hc
        obtain ⟨_, hdc⟩ := h3 i c d hc hd'
        have := (blk_og hdc ha).1
        exact ⟨d, hd', this, hdc.zog this⟩
    cases i with
    | zero =>
      cases j with
      | zero => rfl
      | succ j =>
        simp only [List.getElem?_cons_zero, Option.some.injEq, List.getElem?_cons_succ] at hi hj
        subst hi
        obtain ⟨d, _, _, hz⟩ := hin j b hj hb
        exact absurd hz (hout g ha).1
    | succ i =>
      cases j with
      | zero =>
        simp only [List.getElem?_cons_zero, Option.some.injEq, List.getElem?_cons_succ] at hi hj
        subst hj
        obtain ⟨d, _, _, hz⟩ := hin i a hi ha
        exact absurd hz (hout g hb).1
      | succ j =>
        simp only [List.getElem?_cons_succ] at hi hj
        obtain ⟨d, h4, h5, _⟩ := hin i a hi ha
        obtain ⟨d', h6, h7, _⟩ := hin j b hj hb
        rw [NdG_inj hok.1 h4 h6 h5 h7]
end Go.Proofs.Ytokhfcfnhgianaa
/-
  Walks over facts: what each value's memory reads as, and between which blocks it lies.
-/
namespace Go.Proofs.Ytokhfcfnhgianaa
open Go.RowKit
set_option linter.unusedVariables false
set_option linter.unusedSimpArgs false
attribute [local irreducible] AL AW OpX Le AD

inductive Fct where
  | d (a b : Nat) (x : CV) (v : Value)
  | n (a b : Nat) (v : Value) (cs : List Mc)
  | r (a b : Nat) (v : Value) (wd : Nat) (e : TypeId) (rows : List (List CV))
def Fct.lo : Fct → Nat
  | .d a _ _ _ | .n a _ _ _ | .r a _ _ _ _ _ => a
def Fct.hi : Fct → Nat
  | .d _ b _ _ | .n _ b _ _ | .r _ b _ _ _ _ => b
def Fct.ok (w : World) : Fct → Prop
  | .d a b x v => DC (Iv a b) w x v
  | .n a b v cs => NestC (Iv a b) w v cs
  | .r a b v wd e rows => RowAt (Iv a b) w v wd e rows
def Facts (w : World) (fs : List Fct) : Prop := ∀ f ∈ fs, f.ok w ∧ f.hi ≤ w.heap.size
theorem Fct.ok_mono {w w' : World} {f : Fct} (h : f.ok w) (hs : ∀ g, Iv f.lo f.hi g → w'.heap[g]? = w.heap[g]?) : f.ok w' := by
  cases f with
  | d a b x v => exact DC.mono (fun _ h => h) (fun g hg => hs g hg) h
  | n a b v cs => exact NestC.mono h hs
  | r a b v wd e rows => exact RowAt.mono h hs
theorem Facts.fr {w w' : World} {fs : List Fct} (h : Facts w fs) {a b : Nat} (hf : Fr a b w w') (hd : ∀ f ∈ fs, f.hi ≤ a ∨ b ≤ f.lo) : Facts w' fs := fun f hm => by
  obtain ⟨h1, h2⟩ := h f hm
  refine ⟨Fct.ok_mono h1 fun g hg => hf.old g (by have := hg.2; omega) ?_, Nat.le_trans h2 hf.size⟩
  intro hab
  have := hg.1
  have := hg.2
  rcases hd f hm with h3 | h3 <;> omega
theorem Facts.kp {w w' : World} {fs : List Fct} (h : Facts w fs) (hf : Kp w w') : Facts w' fs := h.fr hf fun _ _ => .inr (Nat.zero_le _)
theorem Facts.cons {w : World} {f : Fct} {fs : List Fct} (h1 : f.ok w) (h2 : f.hi ≤ w.heap.size) (h : Facts w fs) : Facts w (f :: fs) := fun f' hm => by
  rcases List.mem_cons.1 hm with rfl | hm
  · exact ⟨h1, h2⟩
  · exact h f' hm

def ALF (P : Program) (ops : Array Oper) (K : KP) (N : Nat) (wi : World) (fs : List Fct) (todo : List Oper) (l : SL) : Prop := ∀ w1, Facts w1 fs → Kp wi w1 → ALW P ops K N w1 todo l
def AWF (P : Program) (K : KP) (N : Nat) (wi : World) (fs : List Fct) (c : Code) (l : SL) : Prop := ∀ w1, Facts w1 fs → Kp wi w1 → AWW P K N w1 c l
section
variable {P : Program} {ops : Array Oper} {K : KP} {N : Nat} {wi : World} {fs : List Fct} {rest : List Oper} {l : SL}
theorem alf_nil {y : Code} (h : AWF P K N wi fs y l) : ALF P ops (KQ P K N y) N wi fs [] l := fun w1 h1 h2 => alw_nil (h w1 h1 h2)
theorem awf_seq {x y : Code} (h : AWF P (KQ P K N y) N wi fs x l) : AWF P K N wi fs (.seq x y) l := fun w1 h1 h2 => aww_seq (h w1 h1 h2)
theorem awf_region {id : Nat} {ol : List Oper} (h : ALF P ol.toArray K N wi fs ol l) : AWF P K N wi fs (.region id ol.toArray false) l := fun w1 h1 h2 => aww_region (h w1 h1 h2)
theorem awf_cond_f {c : Operand} {x y : Code} {b : Bool} (hc : Ag (lk .dead l) c (.b b)) (hb : b = false) (h : AWF P K N wi fs y l) : AWF P K N wi fs (.cond c x y) l := fun w1 h1 h2 => aww_cond_f hc hb (h w1 h1 h2)
theorem awf_cond_t {c : Operand} {x y : Code} {b : Bool} (hc : Ag (lk .dead l) c (.b b)) (hb : b = true) (h : AWF P K N wi fs x l) : AWF P K N wi fs (.cond c x y) l := fun w1 h1 h2 => aww_cond_t hc hb (h w1 h1 h2)
theorem awf_skip {y : Code} (h : AWF P K N wi fs y l) : AWF P (KQ P K N y) N wi fs .skip l := fun w1 h1 h2 => aww_skip (h w1 h1 h2)
theorem awf_ret (hr : l.all (fun p => rawB p.2) = true) (h : ∀ a w, a.defers = [] → Kp wi w → (∀ t, DA (fun _ => undef) (fun _ => False) w (lk .dead l t) (a.tmps.getD t undef)) → K .ret a w) : AWF P K N wi fs .ret l := fun w1 h1 h2 =>
  aww_ret fun a w hs => h a w (by obtain ⟨ρ, Z, hg⟩ := hs; exact hg.defers) (h2.trans (st_kp hs)) (st_da hr hs _ _ _)
variable {op : Op} {ty : TypeId} {pos : String} {af : Array Edge} {R : List (Operand × AV)} {d : Nat}
theorem alf_v {x : AV} (hx : OpX P ⟨some d, op, ty, pos, af, none⟩ R [] [] [(d, x)] []) (hR : AgL (lk .dead l) R) (hd : Nat.blt d N = true)
    (k : ALF P ops K N wi fs rest ((d, x) :: l)) : ALF P ops K N wi fs (⟨some d, op, ty, pos, af, none⟩ :: rest) l := fun w1 h1 h2 => alw_v hx hR hd (k w1 h1 h2)
theorem alf_on {j dj : Nat} {want b : Bool} {dst : Option Tmp} (hj : (ops[j]?).bind (·.dst) = some dj) (hd : Nat.blt dj N = true) (hb : lk .dead l dj = .b b) (hw : b = want)
    (k : ALF P ops K N wi fs (⟨dst, op, ty, pos, af, none⟩ :: rest) l) : ALF P ops K N wi fs (⟨dst, op, ty, pos, af, some (j, want)⟩ :: rest) l := fun w1 h1 h2 => alw_on hj hd hb hw (k w1 h1 h2)

/-- Arguments: values, and what the facts say that they read as. -/
inductive ArgF (fs : List Fct) : List AR → List Value → Prop where
  | nil : ArgF fs [] []
  | raw {v : Value} {aa : List AR} {vs : List Value} : v.oneCell' = true → ArgF fs aa vs → ArgF fs (.one (.c (.raw v)) :: aa) (v :: vs)
  | d {a b : Nat} {x : CV} {v : Value} {aa : List AR} {vs : List Value} : Fct.d a b x v ∈ fs → ArgF fs aa vs → ArgF fs (.one (.c x) :: aa) (v :: vs)
  | n {a b : Nat} {v : Value} {cs : List Mc} {xs : List Sm} {aa : List AR} {vs : List Value} : Fct.n a b v cs ∈ fs → cs.map (·.2) = xs → ArgF fs aa vs → ArgF fs (slM xs :: aa) (v :: vs)
  | r {a b : Nat} {v : Value} {wd : Nat} {e : TypeId} {rows : List (List CV)} {aa : List AR} {vs : List Value} : Fct.r a b v wd e rows ∈ fs → ArgF fs aa vs → ArgF fs (.one (.c (.sl wd rows)) :: aa) (v :: vs)
theorem ArgF.drl {w : World} {fs : List Fct} (hF : Facts w fs) {aa : List AR} {vs : List Value} (h : ArgF fs aa vs) : DRL (fun _ => undef) (fun g => g < w.heap.size) w aa vs := by
  have hz : ∀ {a b : Nat}, b ≤ w.heap.size → ∀ g, Iv a b g → g < w.heap.size := fun hb g hg => Nat.lt_of_lt_of_le hg.2 hb
  induction h with
  | nil => trivial
  | raw h _ ih => exact ⟨DC.raw _ h, ih⟩
  | d h _ ih =>
    obtain ⟨h1, h2⟩ := hF _ h
    exact ⟨DC.mono (hz h2) (Same.refl _ _) h1, ih⟩
  | n h he _ ih =>
    subst he
    obtain ⟨h1, h2⟩ := hF _ h
    exact ⟨DC.mono (hz h2) (Same.refl _ _) (NestC.dc h1), ih⟩
  | r h _ ih =>
    obtain ⟨h1, h2⟩ := hF _ h
    exact ⟨DC.mono (hz h2) (Same.refl _ _) (RowAt.dc h1), ih⟩
theorem entry0 {w : World} {ρ : Nat → Value} {Z : Nat → Prop} {args : List AR} {vs : List Value} (ha : DRL ρ Z w args vs) (hz : ∀ g, Z g → g < w.heap.size) : Entry w ρ Z args [] vs :=
  ⟨ha, fun i => trivial, (fun i j g h1 => by cases h1), (fun i g h1 => by cases h1), hz, fun q hq => by cases hq⟩
theorem Leave.kp0 {w w' : World} {ρ ρ' : Nat → Value} {Z Z' : Nat → Prop} {rs : List AR} {all : List OB} {us : List Value} (h : Leave w ρ Z [] w' ρ' Z' rs all us) : Kp w w' :=
  ⟨h.os, h.tape, h.output, h.size, fun g hg _ => h.old g hg fun hw => no_wr rfl hw⟩
variable {f : FuncId} {xs : List Operand} {ats : Array TypeId} {vs : List Value} {args : List AR}
/-- A call that answers a plain value. -/
theorem alf_raw {u : Value} (hc : Con P f args [] (fun rs all => rs = [.one (.c (.raw u))] ∧ all = [])) (ha : ArgF fs args vs) (hr : l.all (fun p => rawB p.2) = true) (hv : ArgV (lk .dead l) xs vs) (hd : Nat.blt d N = true)
    (k : ALF P ops K N wi fs rest ((d, .raw u) :: l)) :
    ALF P ops K N wi fs (⟨some d, .call { callee := .value (.func f), args := xs.toArray, argTypes := ats }, ty, pos, af, none⟩ :: rest) l := fun w1 h1 h2 => by
  refine alw_callG (C := fun _ _ _ => True) hr hv hd fun w hw => ⟨hc.ok, (hc.run w (fun _ => undef) _ vs (entry0 (ha.drl (h1.kp hw)) fun _ h => h)).mono fun e w' h => ?_⟩
  obtain ⟨rs, all, us, ρ', Z', ⟨rfl, rfl⟩, _, he, hl⟩ := h
  match us, hl.res, he with
  | [v], hres, he =>
    have h3 : DC Z' w' (.raw u) v := hres.1
    have h4 : u.oneCell' = true := by cases h3; assumption
    have h5 : v = u := by cases h3; rfl
    subst h5
    exact ⟨v, he, .raw v, rfl, DC.raw v h4, k w' ((h1.kp hw).kp hl.kp0) ((h2.trans hw).trans hl.kp0)⟩
  | [], hres, _ => exact hres.elim
  | _ :: _ :: _, hres, _ => exact hres.2.elim
/-- A call that answers data and a plain value. -/
theorem alf_data2 {x : CV} {b : Value} (hc : Con P f args [] (fun rs all => rs = [.one (.c x), .one (.c (.raw b))] ∧ all = [])) (ha : ArgF fs args vs) (hr : l.all (fun p => rawB p.2) = true) (hv : ArgV (lk .dead l) xs vs) (hd : Nat.blt d N = true)
    (k : ∀ s u, (∀ f ∈ fs, f.hi ≤ s) → wi.heap.size ≤ s → ALF P ops K N wi (.d 0 s x u :: fs) rest ((d, .tup [.one (.c (.raw u)), .one (.c (.raw b))]) :: l)) :
    ALF P ops K N wi fs (⟨some d, .call { callee := .value (.func f), args := xs.toArray, argTypes := ats }, ty, pos, af, none⟩ :: rest) l := fun w1 h1 h2 => by
  refine alw_callG (C := fun _ _ _ => True) hr hv hd fun w hw => ⟨hc.ok, (hc.run w (fun _ => undef) _ vs (entry0 (ha.drl (h1.kp hw)) fun _ h => h)).mono fun e w' h => ?_⟩
  obtain ⟨rs, all, us, ρ', Z', ⟨rfl, rfl⟩, _, he, hl⟩ := h
  match us, hl.res, he with
  | [u, v], hres, he =>
    have h3 : DC Z' w' (.raw b) v := hres.2.1
    have h4 : b.oneCell' = true := by cases h3; assumption
    have h5 : v = b := by cases h3; rfl
    subst h5
    have h6 : DC Z' w' x u := hres.1
    have hF := (h1.kp hw).kp hl.kp0
    have hK := (h2.trans hw).trans hl.kp0
    exact ⟨_, he, .tup [.one (.c (.raw u)), .one (.c (.raw v))], rfl, ⟨[u, v], rfl, DC.raw u (DC.one h6), DC.raw v h4, trivial⟩,
      k w'.heap.size u (fun f hf => (hF f hf).2) hK.size w' (hF.cons (f := .d 0 w'.heap.size x u) (DC.mono (fun g hg => ⟨Nat.zero_le _, hl.zlt g hg⟩) (Same.refl _ _) h6) (Nat.le_refl _)) hK⟩
  | [], hres, _ => exact hres.elim
  | [_], hres, _ => exact hres.2.elim
  | _ :: _ :: _ :: _, hres, _ => exact hres.2.2.elim
/-- A call that answers a row of its own. -/
theorem alf_row {wd : Nat} {e : TypeId} {rows : List (List CV)} (hc : Con P f args [] (fun rs all => rs = [.one (.own 0)] ∧ all = [.row wd e rows])) (hfl : flatRows rows) (ha : ArgF fs args vs) (hr : l.all (fun p => rawB p.2) = true) (hv : ArgV (lk .dead l) xs vs) (hd : Nat.blt d N = true)
    (k : ∀ s t u, (∀ f ∈ fs, f.hi ≤ s) → wi.heap.size ≤ s → s ≤ t → ALF P ops K N wi (.r s t u wd e rows :: fs) rest ((d, .raw u) :: l)) :
    ALF P ops K N wi fs (⟨some d, .call { callee := .value (.func f), args := xs.toArray, argTypes := ats }, ty, pos, af, none⟩ :: rest) l := fun w1 h1 h2 => by
  refine alw_callG (C := fun _ _ _ => True) hr hv hd fun w hw => ⟨hc.ok, (hc.run w (fun _ => undef) _ vs (entry0 (ha.drl (h1.kp hw)) fun _ h => h)).mono fun e1 w' h => ?_⟩
  obtain ⟨rs, all, us, ρ', Z', ⟨rfl, rfl⟩, _, he, hl⟩ := h
  match us, hl.res, he with
  | [v], hres, he =>
    have h5 : v = ρ' 0 := hres.1.1
    have h6 : v.oneCell' = true := hres.1.2
    have hob : DO ρ' Z' w' 0 (.row wd e rows) := hl.objs 0
    have hF := h1.kp hw
    have hK := h2.trans hw
    have hrow : RowAt (Iv w.heap.size w'.heap.size) w' v wd e rows := by
      refine ⟨?_, fun g hg => ?_⟩
      · have h7 : DO ρ' (fun _ => False) w' 0 (.row wd e rows) := DO.flat hob hfl
        rw [h5]; exact h7
      · rw [h5] at hg
        refine ⟨(hl.out 0 g rfl hg).2.resolve_right fun h => no_wr rfl h, ?_⟩
        obtain ⟨_, vs', _, ho⟩ := do_row.1 hob
        rcases ho with ⟨h4, _⟩ | ⟨g', off, cap, cur, h4, h8, _⟩
        · rw [h4] at hg; cases hg
        · rw [h4] at hg; cases hg; exact (Array.getElem?_eq_some_iff.1 h8).1
    exact ⟨v, he, .raw v, rfl, DC.raw v h6, k w.heap.size w'.heap.size v (fun f hf => (hF f hf).2) hK.size hl.kp0.size w' ((hF.kp hl.kp0).cons (f := .r w.heap.size w'.heap.size v wd e rows) hrow (Nat.le_refl _)) (hK.trans hl.kp0)⟩
  | [], hres, _ => exact hres.elim
  | _ :: _ :: _, hres, _ => exact hres.2.elim
/-- A call that answers samples of its own. -/
theorem alf_toS {ls : List Sm} (hc : ConB P f args [] (ToP ls)) (ha : ArgF fs args vs) (hr : l.all (fun p => rawB p.2) = true) (hv : ArgV (lk .dead l) xs vs) (hd : Nat.blt d N = true)
    (k : ∀ s t u cs, cs.map (·.2) = ls → (∀ f ∈ fs, f.hi ≤ s) → wi.heap.size ≤ s → s ≤ t → ALF P ops K N wi (.n s t u cs :: fs) rest ((d, .raw u) :: l)) :
    ALF P ops K N wi fs (⟨some d, .call { callee := .value (.func f), args := xs.toArray, argTypes := ats }, ty, pos, af, none⟩ :: rest) l := fun w1 h1 h2 => by
  refine alw_callG (C := fun _ _ _ => True) hr hv hd fun w hw => ⟨hc.ok, (hc.run w (fun _ => undef) _ vs (entry0 (ha.drl (h1.kp hw)) fun _ h => h)).mono fun e1 w' h => ?_⟩
  obtain ⟨rs, all, us, ρ', Z', ⟨ds, rfl, rfl, hds, hok⟩, _, he, hl⟩ := h
  match us, hl.res, he with
  | [v], hres, he =>
    have h5 : v = ρ' 0 := hres.1.1
    have h6 : v.oneCell' = true := hres.1.2
    have hF := h1.kp hw
    have hK := h2.trans hw
    obtain ⟨cs, h7, h8⟩ := nest_of hl hok
    rw [← h5] at h8
    exact ⟨v, he, .raw v, rfl, DC.raw v h6, k w.heap.size w'.heap.size v cs (h7.trans hds) (fun f hf => (hF f hf).2) hK.size hl.kp0.size w' ((hF.kp hl.kp0).cons (f := .n w.heap.size w'.heap.size v cs) h8 (Nat.le_refl _)) (hK.trans hl.kp0)⟩
  | [], hres, _ => exact hres.elim
  | _ :: _ :: _, hres, _ => exact hres.2.elim
theorem alf_grp {ls : List Sm} {ns : List Str} {kind : Int} (hc : ConB P f args [] (GrP ls ns kind)) (ha : ArgF fs args vs) (hr : l.all (fun p => rawB p.2) = true) (hv : ArgV (lk .dead l) xs vs) (hd : Nat.blt d N = true)
    (k : ∀ s t u cs, cs.map (·.2) = grR ns kind ls → (∀ f ∈ fs, f.hi ≤ s) → wi.heap.size ≤ s → s ≤ t → ALF P ops K N wi (.n s t u cs :: fs) rest ((d, .tup [.one (.c (.raw u)), rB (grB ls kind)]) :: l)) :
    ALF P ops K N wi fs (⟨some d, .call { callee := .value (.func f), args := xs.toArray, argTypes := ats }, ty, pos, af, none⟩ :: rest) l := fun w1 h1 h2 => by
  refine alw_callG (C := fun _ _ _ => True) hr hv hd fun w hw => ⟨hc.ok, (hc.run w (fun _ => undef) _ vs (entry0 (ha.drl (h1.kp hw)) fun _ h => h)).mono fun e1 w' h => ?_⟩
  obtain ⟨rs, all, us, ρ', Z', ⟨ds, rfl, rfl, hds, hok⟩, _, he, hl⟩ := h
  match us, hl.res, he with
  | [v, b], hres, he =>
    have h5 : v = ρ' 0 := hres.1.1
    have h6 : v.oneCell' = true := hres.1.2
    have h9 : DC Z' w' (.raw (.bool (grB ls kind))) b := hres.2.1
    have h10 : b = .bool (grB ls kind) := by cases h9; rfl
    subst h10
    have hF := h1.kp hw
    have hK := h2.trans hw
    obtain ⟨cs, h7, h8⟩ := nest_of hl hok
    rw [← h5] at h8
    exact ⟨_, he, .tup [.one (.c (.raw v)), rB (grB ls kind)], rfl, ⟨[v, .bool (grB ls kind)], rfl, DC.raw v h6, DC.raw _ rfl, trivial⟩,
      k w.heap.size w'.heap.size v cs (h7.trans hds) (fun f hf => (hF f hf).2) hK.size hl.kp0.size w' ((hF.kp hl.kp0).cons (f := .n w.heap.size w'.heap.size v cs) h8 (Nat.le_refl _)) (hK.trans hl.kp0)⟩
  | [], hres, _ => exact hres.elim
  | [_], hres, _ => exact hres.2.elim
  | _ :: _ :: _ :: _, hres, _ => exact hres.2.2.elim
end
end Go.Proofs.Ytokhfcfnhgianaa
