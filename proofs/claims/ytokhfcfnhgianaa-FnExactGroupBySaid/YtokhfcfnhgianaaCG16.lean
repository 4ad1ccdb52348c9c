/- Texts: EngB W131 W132 EngR -/
import Derived.Test.YtokhfcfnhgianaaCG15
/-
  Slices whose block is known; contracts whose answer says where the new blocks lie.
-/
namespace Go.Proofs.Ytokhfcfnhgianaa
open Go.RowKit
set_option linter.unusedVariables false
set_option linter.unusedSimpArgs false

def CV.og : CV → Option Nat
  | .blk _ _ og _ => og
  | _ => none
def ogs (xs : List CV) : List Nat := xs.filterMap CV.og
theorem DC.zog {Z : Nat → Prop} {w : World} {x : CV} {v : Value} {g : Nat} (h : DC Z w x v) (hx : x.og = some g) : Z g := by
  cases h with
  | blk e wd rows g' off n cap cur us hn hw hz hh hc hm hr hl hcell hd => cases hx; exact hz
  | _ => cases hx
theorem DL.zogs {Z : Nat → Prop} {w : World} : ∀ {xs : List CV} {us : List Value}, DL Z w xs us → ∀ g ∈ ogs xs, Z g
  | [], [], _, g, hg => by cases hg
  | x :: xs, u :: us, h, g, hg => by
    simp only [ogs, List.mem_filterMap, List.mem_cons] at hg
    obtain ⟨y, hy, hyg⟩ := hg
    rcases hy with rfl | hy
    · exact h.1.zog hyg
    · exact DL.zogs h.2 g (by simp only [ogs, List.mem_filterMap]; exact ⟨y, hy, hyg⟩)
  | [], _ :: _, h, _, _ => h.elim
  | _ :: _, [], h, _, _ => h.elim
section
variable {cx : Cx} {S : Nat → AV} {O : Nat → OB} {V : Nat → Prop} {a : Act} {w : World} {ρ : Nat → Value} {Z : Nat → Prop}
theorem Good.blkOf (h : Good cx S O V a w ρ Z) {t wd : Nat} {e : TypeId} {rows : List (List CV)} (ho : O t = .row wd e rows) :
    ∃ og, (∀ g, og = some g → blk (ρ t) = some g) ∧ ∀ Z' : Nat → Prop, (∀ g, Z g → Z' g) → (∀ g, blk (ρ t) = some g → Z' g) → DC Z' w (.blk e wd og rows) (ρ t) := by
  have hob := h.obj t
  rw [ho] at hob
  rcases hob.2 with ⟨h1, rfl⟩ | ⟨g, off, cap, cur, us, h1, h2, h3, h4, h5, h6, h7⟩
  · exact ⟨none, (fun g hg => by cases hg), (fun Z' _ _ => by rw [h1]; exact .blkn e wd)⟩
  · refine ⟨some g, (fun g' hg => by cases hg; rw [h1]; rfl), fun Z' hZ hb => ?_⟩
    have h6' : DL Z' w rows.flatten us := h6.mono hZ (Same.refl _ _)
    rw [h1]
    exact .blk e wd rows g off _ cap cur us rfl hob.1 (hb g (by rw [h1]; rfl)) h2 h3 h4 h5 h6'.len h7 (fun k hk hk' => h6'.at k hk hk')
end
section
variable {P : Program} {ops : Array Oper} {cx : Cx} {Q : APost} {rest : List Oper} {l : SL} {m : OL} {n : Nat}
/-- What a slot holds of an own slice that is written no more: the slice in its block, which is none of another object's cells'. -/
theorem st_blkG (s t u : Nat) {wd wd2 : Nat} {e e2 : TypeId} {rows rows2 : List (List CV)} {x : AV} (F : CV → AV) (hs : lk .dead l s = x)
    (hx : ∀ ρ Z w c v, DA ρ Z w x v → DC Z w c (ρ t) → DA ρ Z w (F c) v) (hF : ∀ c, (F c).tags = [])
    (ho : lk .gone m t = .row wd e rows) (hu : lk .gone m u = .row wd2 e2 rows2) {a : Act} {w : World} (h : St cx l m n a w) :
    ∃ og, (∀ g, og = some g → (cx.B ≤ g ∨ cx.M g) ∧ g ∉ ogs rows2.flatten) ∧ St cx ((s, F (.blk e wd og rows)) :: l) ((t, .froz wd rows) :: m) n a w := by
  obtain ⟨ρ, Z, hg⟩ := h
  obtain ⟨og, h1, h2⟩ := hg.blkOf ho
  have hf := hg.freeze ho
  refine ⟨og, fun g hog => ?_, ρ, (fun g => Z g ∨ blk (ρ t) = some g), ?_⟩
  · have hb := h1 g hog
    have h3 := hg.out t g (by rw [ho]; rfl) hb
    refine ⟨h3.2, fun hm => h3.1 ?_⟩
    have h4 := hg.obj u
    rw [hu] at h4
    obtain ⟨_, us, h5, _⟩ := do_row.1 h4
    exact h5.zogs g hm
  · rw [show lk AV.dead ((s, F (.blk e wd og rows)) :: l) = lkf (lk .dead l) [(s, F (.blk e wd og rows))] from lk_cons _ _ _ _, lk_cons]
    have hv : DA ρ (fun g => Z g ∨ blk (ρ t) = some g) w (F (.blk e wd og rows)) (a.tmps.getD s undef) := by
      have h3 := hf.slot s
      rw [hs] at h3
      exact hx _ _ _ _ _ h3 (h2 _ (fun _ h => .inl h) (fun _ h => .inr h))
    refine ⟨hf.size, hf.defers, fun t => ?_, hf.obj, hf.sep, hf.out, hf.zlt, fun t ht => ?_, hf.os, hf.tape, hf.output, hf.big, hf.old, hf.pin, hf.vlo, hf.zin, hf.zout⟩
    · rw [lkf_one]
      split
      · rename_i e; subst e; exact hv
      · exact hf.slot t
    · obtain ⟨a1, a2, a3⟩ := hf.virgin t ht
      refine ⟨a1, fun s' => ?_, a3⟩
      rw [lkf_one]
      split
      · rw [hF]; exact fun h => by cases h
      · exact a2 s'
/-- The same, the first cell of a struct. -/
theorem al_blkAgg (s t u : Nat) {wd wd2 : Nat} {e e2 : TypeId} {rows rows2 : List (List CV)} {y : CV} (hs : lk .dead l s = .agg [.own t, .c y])
    (ho : lk .gone m t = .row wd e rows) (hu : lk .gone m u = .row wd2 e2 rows2)
    (k : ∀ og, (∀ g, og = some g → (cx.B ≤ g ∨ cx.M g) ∧ g ∉ ogs rows2.flatten) → AL P ops cx Q rest ((s, .agg [.c (.blk e wd og rows), .c y]) :: l) ((t, .froz wd rows) :: m) n) : AL P ops cx Q rest l m n := fun a w h => by
  obtain ⟨og, h1, h2⟩ := st_blkG s t u (fun c => .agg [.c c, .c y]) hs (fun ρ Z w c v hv hc => by
    obtain ⟨us, h3, h4⟩ := hv
    match us, h4 with
    | [u1, u2], h4 =>
      have e1 : u1 = ρ t := h4.1.1
      exact ⟨[u1, u2], h3, by rw [e1]; exact hc, h4.2.1, trivial⟩
    | [], h4 => exact h4.elim
    | [_], h4 => exact h4.2.elim
    | _ :: _ :: _ :: _, h4 => exact h4.2.2.elim) (fun _ => rfl) ho hu h
  exact k og h1 a w h2
end
structure ConB (P : Program) (f : FuncId) (args : List AR) (obs : List OB) (Post : Nat → List AR → List OB → Prop) : Prop where
  ok : fnOk P f = true
  run : ∀ (w : World) (ρ : Nat → Value) (Z : Nat → Prop) (vs : List Value), Entry w ρ Z args obs vs →
    Calls P f vs.toArray w fun e w' => ∃ rs all us ρ' Z', Post w.heap.size rs all ∧ obs.length ≤ all.length ∧ e = .returned (mkRet us) ∧ Leave w ρ Z obs w' ρ' Z' rs all us
theorem no_wr {obs : List OB} {ρ : Nat → Value} {g : Nat} (h : obs = []) (hw : Wr obs ρ g) : False := by
  subst h
  obtain ⟨i, h1, _⟩ := hw
  simp [obAt, OB.live] at h1
section
variable {P : Program}
/-- A walk of the body gives the contract. -/
theorem con_of_awB {f : FuncId} {fn : Func} {c : Code} {N : Nat} {vars : List ResultVar} {args : List AR} {obs : List OB} {Post : Nat → List AR → List OB → Prop} (l0 : SL) (m0 : OL) (n0 : Nat)
    (hf : P.funcs[f]? = some fn) (hok : fnOk P f = true) (hb : fn.body = some c) (hN : fn.ntmps = N) (hv : fn.results = vars.toArray) (hv4 : vars.length ≤ 4) (hargs : Nat.ble args.length N = true) (hl0 : argL 0 args = l0) (hm0 : obL 0 obs = m0) (hn0 : obs.length = n0)
    (htags : ((argL 0 args).all (fun p => p.2.okTags obs.length) && obs.all (fun o => o.okTags obs.length)) = true)
    (H : ∀ B M w0 ρ0 Z0, (n0 = 0 → ∀ g, ¬ M g) → AW P ⟨N, B, M, w0, n0, ρ0, Z0⟩ c (RetG P vars n0 (Post B)) l0 m0 n0) : ConB P f args obs Post := by
  subst hl0 hm0 hn0
  have hargs := Nat.le_of_ble_eq_true hargs
  refine ⟨hok, fun w ρ Z vs he => ?_⟩
  have hvl : vs.length = args.length := drl_len he.args
  simp only [Bool.and_eq_true, List.all_eq_true] at htags
  refine calls_of_wp hf hb ?_
  refine Code.wp_mono ?_ (H w.heap.size (Wr obs ρ) w ρ Z (fun h0 g hw => no_wr (List.eq_nil_of_length_eq_zero h0) hw) _ w ⟨ρ, Z, ?_⟩)
  · rintro e a w' ⟨l, m, n, ⟨hex, rs, all, p, hpost, hlen, hnd, hpl, hpin, htg, hret, hobs⟩, ρ1, Z1, hg⟩
    have main : a.defers = [] ∧ ∃ v, (results fn a.tmps).run P w' = .ok v w' ∧ ∃ rs all us ρ' Z', Post w.heap.size rs all ∧ obs.length ≤ all.length ∧ Ending.returned v = .returned (mkRet us) ∧ Leave w ρ Z obs w' ρ' Z' rs all us := by
      obtain ⟨us, h1, h2⟩ := retS_vals hg hret
      have hr := results_run hv hv4 h1
      simp only [resTags, Bool.and_eq_true] at htg
      simp only [pinB, Bool.and_eq_true, List.all_eq_true] at hpin
      have hlive : ∀ i, (obAt all i).live = true → i < all.length ∧ (lk .gone m (perm p i)).live = true := fun i hi => by
        refine ⟨?_, ?_⟩
        · rcases Nat.lt_or_ge i all.length with h | h
          · exact h
          · simp [obAt, List.getElem?_eq_none h, OB.live] at hi
        · rcases leo_obL hobs i with h | h
          · rw [h] at hi; cases hi
          · rw [h]; cases hob : obAt all i <;> rw [hob] at hi <;> first | rfl | cases hi
      refine ⟨hg.defers, _, hr, rs, all, us, fun t => ρ1 (perm p t), Z1, hpost, hlen, rfl, h2, fun i => ?_, fun i hi => ?_, fun i j g a1 a2 a3 a4 => ?_, fun i g a1 a2 => ?_, ?_, ?_, hg.zlt, htg, hg.os, hg.tape, hg.output, hg.big, hg.old⟩
      · rcases leo_obL hobs i with h | h
        · rw [h]; trivial
        · have := hg.obj (perm p i)
          rw [h] at this
          exact DO.sub this
      · show ρ1 (perm p i) = ρ i
        rw [Nat.eq_of_beq_eq_true (hpin.2 i (List.mem_range.2 hi))]
        exact hg.pin i hi
      · have b1 := hlive i a1
        have b2 := hlive j a2
        exact nodupB_inj hnd i j (by rw [hpl]; exact b1.1) (by rw [hpl]; exact b2.1) (hg.sep _ _ g b1.2 b2.2 a3 a4)
      · exact hg.out (perm p i) g (hlive i a1).2 a2
      · exact hg.zin.1
      · exact hg.zout
    cases e with
    | normal => exact main
    | ret => exact main
    | _ => exact hex.elim
  · refine ⟨?_, rfl, fun t => ?_, fun t => ?_, fun t t' g h1 h2 h3 h4 => ?_, fun t g h1 h2 => ?_, he.zlt, fun t ht => ?_, rfl, rfl, rfl, Nat.le_refl _, fun _ _ _ => rfl, fun _ _ => rfl, fun t ht => ht, ⟨fun _ h => h, he.gl, fun g hg => ⟨he.zlt g hg, fun ⟨i, h1, h2⟩ => he.nz i g h1 h2 hg⟩⟩, fun _ h => .inl h⟩
    · simp [hN, hvl]; omega
    · rw [lk_argL]
      simp only [Nat.zero_le, if_true, Nat.sub_zero]
      by_cases h : t < args.length
      · rw [List.getElem?_eq_getElem h]
        obtain ⟨v, h1, h2⟩ := drl_at he.args (List.getElem?_eq_getElem h)
        have hlt : t < vs.length := by omega
        have e : (vs.toArray ++ Array.replicate (fn.ntmps - vs.toArray.size) undef).getD t undef = v := by
          rw [Array.getD_eq_getD_getElem?, Array.getElem?_append_left (by simpa using hlt)]
          simp [h1]
        rw [e]
        exact h2
      · rw [List.getElem?_eq_none (by omega)]
        trivial
    · rw [lk_obL0]; exact he.objs t
    · rw [lk_obL0] at h1 h2; exact he.sep t t' g h1 h2 h3 h4
    · rw [lk_obL0] at h1; exact ⟨he.nz t g h1 h2, .inr ⟨t, h1, h2⟩⟩
    · refine ⟨?_, fun s hs => ?_, fun s hs => ?_⟩
      · rw [lk_obL0, obAt, List.getD_eq_getElem?_getD, List.getElem?_eq_none ht]; rfl
      · have : ∀ s, ∀ t ∈ (lk AV.dead (argL 0 args) s).tags, t < obs.length := lk_all (p := fun x : AV => ∀ t ∈ x.tags, t < obs.length) (by simp [AV.tags]) fun x hx t ht => by
          have := htags.1 x hx
          simp only [AV.okTags, List.all_eq_true] at this
          exact blt_lt (this t ht)
        exact absurd (this s t hs) (by omega)
      · rw [lk_obL0] at hs
        have h1 : obAt obs s ∈ obs ∨ obAt obs s = .gone := by
          rcases Nat.lt_or_ge s obs.length with h | h
          · left; rw [obAt, List.getD_eq_getElem?_getD, List.getElem?_eq_getElem h]; exact List.getElem_mem h
          · right; rw [obAt, List.getD_eq_getElem?_getD, List.getElem?_eq_none h]; rfl
        rcases h1 with h1 | h1
        · have := htags.2 _ h1
          simp only [OB.okTags, List.all_eq_true] at this
          have := blt_lt (this t hs)
          omega
        · rw [h1] at hs; cases hs
end
end Go.Proofs.Ytokhfcfnhgianaa
/-
  Samples of the call's own, each with labels of its own: their copies.
-/
namespace Go.Proofs.Ytokhfcfnhgianaa
open Go.RowKit
set_option linter.unusedVariables false
set_option linter.unusedSimpArgs false
attribute [local irreducible] AL AW OpX Le AD

/-- A sample, the block of its labels ahead. -/
abbrev Nd := Option Nat × Sm
def nsR (s : Nd) : List CV := [.blk 60 2 s.1 (lbRs s.2.1), cI s.2.2]
def nsRs (xs : List Nd) : List (List CV) := xs.map nsR
theorem nsRs_len {xs : List Nd} : (nsRs xs).length = xs.length := by simp [nsRs]
theorem nsRs_at {xs : List Nd} {k : Nat} {x : Nd} (h : xs[k]? = some x) : (nsRs xs)[k]? = some (nsR x) := by simp [nsRs, h]
theorem nsRs_cat {xs ys : List Nd} : nsRs xs ++ nsRs ys = nsRs (xs ++ ys) := by simp [nsRs]
def NdG (ds : List Nd) : List Nat := ds.filterMap (·.1)
theorem NdG_snoc {ds : List Nd} {og : Option Nat} {s : Sm} : NdG (ds ++ [(og, s)]) = NdG ds ++ og.toList := by
  cases og <;> simp [NdG]
theorem ogs_app {xs ys : List CV} : ogs (xs ++ ys) = ogs xs ++ ogs ys := by simp [ogs]
theorem ogs_nsRs : ∀ {ds : List Nd}, ogs (nsRs ds).flatten = NdG ds
  | [] => rfl
  | (og, s) :: ds => by
    have ih := ogs_nsRs (ds := ds)
    have e : (nsRs ((og, s) :: ds)).flatten = nsR (og, s) ++ (nsRs ds).flatten := rfl
    rw [e, ogs_app, ih]
    cases og <;> simp [nsR, ogs, CV.og, NdG]
def zM : List CV := [.raw (.slice none 0 0), cI 0]
theorem ogs_rep (n : Nat) : ogs (List.replicate n zM).flatten = [] := by
  induction n with
  | zero => rfl
  | succ n ih => rw [List.replicate_succ, List.flatten_cons, ogs_app, ih]; rfl
/-- The samples' blocks: no two alike, none old. -/
def NdOk (B : Nat) (ds : List Nd) : Prop := (NdG ds).Nodup ∧ ∀ g ∈ NdG ds, B ≤ g
theorem NdOk_nil {B : Nat} : NdOk B [] := ⟨List.nodup_nil, fun g hg => by cases hg⟩
theorem NdOk_snoc {B : Nat} {ds : List Nd} {og : Option Nat} {s : Sm} (h : NdOk B ds) (hg : ∀ g, og = some g → B ≤ g ∧ g ∉ NdG ds) : NdOk B (ds ++ [(og, s)]) := by
  rw [NdOk, NdG_snoc]
  cases og with
  | none => simp only [Option.toList_none, List.append_nil]; exact h
  | some g =>
    obtain ⟨h1, h2⟩ := hg g rfl
    refine ⟨List.nodup_append.2 ⟨h.1, by simp, fun a ha b hb => ?_⟩, fun a ha => ?_⟩
    · simp at hb; subst hb; exact fun e => h2 (e ▸ ha)
    · rcases List.mem_append.1 ha with ha | ha
      · exact h.2 a ha
      · simp at ha; omega
theorem c_toSample (s : Sm) (hL : s.1.length ≤ 2000000) : Con Try.prog 19 [smA s] [] (fun rs all => rs = [.agg [.own 0, .c (cI s.2)]] ∧ all = [.row 2 60 (lbRs s.1)]) := by
  refine con_of_aw (vars := [.cell 2 44]) [(0, .r (smA s))] [] 0 Try.func19 (by kernel_rfl) rfl Try.ntmps19 rfl (by decide) rfl rfl rfl rfl rfl ?_; intro B M w0 ρ0 Z0
  repeat' (first | (refine is_al ?_; (first | (refine is_load ?_; (first | refine al_v (opx_ld_box rfl) ⟨rfl, trivial⟩ ⟨rfl, trivial⟩ rfl ?_ | refine al_v opx_ld2_box ⟨rfl, trivial⟩ ⟨rfl, trivial⟩ rfl ?_)) | (refine is_fa ?_; refine al_v opx_fa_ref ⟨rfl, trivial⟩ trivial rfl ?_) | (refine is_call ?_; refine al_callr2 (by (repeat (first | exact .nil | refine .one rfl rfl ?_ | refine .froz rfl rfl ?_ | refine .rnil rfl ?_ | refine .agg rfl (by (repeat (first | exact .nil | refine .cons (.same rfl) ?_ | refine .cons (.froz rfl) ?_ | refine .cons (.rnil) ?_)); (first | done | fail)) ?_)); (first | done | fail)) rfl (c_toLabelS s.1 hL) ?_) | (refine is_st ?_; (first | refine al_s (opx_st1_box (by rfl)) ⟨rfl, rfl, trivial⟩ ⟨rfl, trivial⟩ ?_ | refine al_s (opx_sts_box (by rfl) (by rfl)) ⟨rfl, rfl, trivial⟩ ⟨rfl, trivial⟩ ?_)) | refine al_n opx_alloc trivial trivial rfl ?_ | refine al_n opx_boxs ⟨rfl, trivial⟩ trivial rfl ?_ | refine al_nil ?_)) | (refine is_aw ?_; (first | refine aw_seq ?_ | refine aw_region ?_ | refine aw_ret ?_)))
  exact retg_mk trivial [.agg [.own 0, .c (cI s.2)]] [.row 2 60 (lbRs s.1)] [3] ⟨rfl, rfl⟩ (Nat.zero_le _) rfl rfl rfl rfl ⟨⟨1, 44, _, rfl, rfl, .inl ⟨by kernel_rfl, rfl⟩⟩, trivial⟩ ⟨rfl, trivial⟩
section
variable {P : Program} {ops : Array Oper} {cx : Cx} {Q : APost} {rest : List Oper} {l : SL} {m : OL} {n d : Nat} {ty : TypeId} {pos : String} {af : Array Edge} {f : FuncId} {xs : List Operand} {ats : Array TypeId} {args : List AR}
theorem al_call2o {wd : Nat} {e : TypeId} {rows : List (List CV)} {c : CV} (ha : Args (lk .dead l) (lk .gone m) (cpi [] n) false xs args) (hd : Nat.blt d cx.N = true)
    (hc : Con P f args [] (fun rs all => rs = [.agg [.own 0, .c c]] ∧ all = [.row wd e rows]))
    (k : AL P ops cx Q rest ((d, .agg [.own n, .c c]) :: l) ((n, .row wd e rows) :: m) (n + 1)) :
    AL P ops cx Q (⟨some d, .call { callee := .value (.func f), args := xs.toArray, argTypes := ats }, ty, pos, af, none⟩ :: rest) l m n :=
  al_callG ha hd hc k
end
/-- What copies of samples are. -/
def ToP (l : List Sm) (B : Nat) (rs : List AR) (all : List OB) : Prop := ∃ ds : List Nd, rs = [.one (.own 0)] ∧ all = [.row 2 44 (nsRs ds)] ∧ ds.map (·.2) = l ∧ NdOk B ds
theorem rep_cons {α : Type} {n k : Nat} (x : α) (h : k < n) : List.replicate (n - k) x = x :: List.replicate (n - (k + 1)) x := by
  rw [show n - k = (n - (k + 1)) + 1 by omega, List.replicate_succ]
theorem c_toSampleS (l : List Sm) (hL : l.length ≤ 2000000) (hs : ∀ s ∈ l, s.1.length ≤ 2000000) : ConB Try.prog 7 [slM l] [] (ToP l) := by
  have hlen := smRs_len (xs := l)
  refine con_of_awB (vars := [.tmp 2]) [(0, .r (slM l))] [] 0 Try.func7 (by kernel_rfl) rfl Try.ntmps7 rfl (by decide) rfl rfl rfl rfl rfl ?_; intro B M w0 ρ0 Z0 hM
  have hM := hM rfl
  repeat' (first | (refine is_al ?_; (first | (refine is_move ?_; refine al_v (opx_move (.sl _ _)) ⟨rfl, trivial⟩ trivial rfl ?_) | (refine is_assign ?_; (first | refine al_v (opx_assign (.raw _)) ⟨rfl, trivial⟩ trivial rfl ?_ | refine al_v (opx_assign (.own _)) ⟨rfl, trivial⟩ trivial rfl ?_)) | (refine is_bi ?_; refine al_v opx_len_sl ⟨rfl, trivial⟩ trivial rfl ?_) | refine al_nil ?_ | refine al_mkn (rows := List.replicate l.length zM) l.length rfl (by omega) rfl rfl rfl rfl (by omega) ?_)) | (refine is_ad ?_; refine al_mkn (rows := List.replicate l.length zM) l.length rfl (by omega) rfl rfl rfl rfl (by omega) ?_) | (refine is_aw ?_; (first | refine aw_seq ?_ | refine aw_region ?_ | refine aw_block ?_)))
  refine aw_loop (γ := List Nd) (fun ds => [(0, .r (slM l)), (3, .own 0), (4, .i (ds.length : Int))]) (fun ds => [(0, .row 2 44 (nsRs ds ++ List.replicate (l.length - ds.length) zM))]) (fun _ => 1)
    (fun ds => ds.length ≤ l.length ∧ ds.map (·.2) = l.take ds.length ∧ NdOk B ds) (fun ds => l.length - ds.length) [] ⟨Nat.zero_le _, rfl, NdOk_nil⟩ (le_mk [0] rfl rfl rfl rfl ⟨rfl, rfl, rfl, trivial⟩ ⟨rfl, trivial⟩) ?_
  rintro ds ⟨hk, hds, hok⟩
  rcases Nat.lt_or_ge ds.length l.length with hlt | hge
  · have hc : decide ((ds.length : Int) < ((smRs l).length : Int)) = true := decide_eq_true (by omega)
    obtain ⟨s, hsk⟩ : ∃ s, l[ds.length]? = some s := ⟨_, List.getElem?_eq_getElem hlt⟩
    have hpr := smRs_at hsk
    have hs1 := hs s (List.mem_of_getElem? hsk)
    have hko2 : ds.length < (nsRs ds ++ List.replicate (l.length - ds.length) zM).length := by rw [List.length_append, nsRs_len, List.length_replicate]; omega
    repeat' (first | (refine is_al ?_; (first | (refine is_move ?_; (first | refine al_v (opx_move (.raw _)) ⟨rfl, trivial⟩ trivial rfl ?_ | refine al_v (opx_move (.sl _ _)) ⟨rfl, trivial⟩ trivial rfl ?_ | refine al_v (opx_move (.own _)) ⟨rfl, trivial⟩ trivial rfl ?_)) | (refine is_bin ?_; refine al_v opx_lss ⟨rfl, rfl, trivial⟩ trivial rfl ?_) | (refine is_load ?_; refine al_v opx_ld2_imm ⟨rfl, trivial⟩ trivial rfl ?_) | (refine is_bi ?_; refine al_v opx_len_sl ⟨rfl, trivial⟩ trivial rfl ?_) | (refine is_ia ?_; (first | refine al_v (opx_ia_sl2 hpr (by omega)) ⟨rfl, rfl, trivial⟩ trivial rfl ?_ | refine al_v (opx_ia_own2 hko2 (by omega)) ⟨rfl, rfl, trivial⟩ ⟨rfl, trivial⟩ rfl ?_)) | refine al_nil ?_ | refine al_call2o (by (repeat (first | exact .nil | refine .one rfl rfl ?_)); (first | done | fail)) rfl (c_toSample s hs1) ?_)) | (refine is_ad ?_; refine al_call2o (by (repeat (first | exact .nil | refine .one rfl rfl ?_)); (first | done | fail)) rfl (c_toSample s hs1) ?_) | (refine is_aw ?_; (first | refine aw_seq ?_ | refine aw_region ?_ | refine aw_skip ?_ | refine aw_block ?_ | (refine is_cond ?_; refine aw_cond_t rfl (by assumption) ?_))))
    refine al_blkAgg 20 1 0 rfl rfl rfl fun og hog => ?_
    rw [List.flatten_append, ogs_app, ogs_nsRs, ogs_rep, List.append_nil] at hog
    refine al_s (opx_sts_el (rows := nsRs ds ++ List.replicate (l.length - ds.length) zM) (row := nsR (og, s)) rfl rfl hko2) ⟨rfl, rfl, trivial⟩ ⟨rfl, trivial⟩ ?_
    have hset : (nsRs ds ++ List.replicate (l.length - ds.length) zM).set ds.length (nsR (og, s)) = nsRs (ds ++ [(og, s)]) ++ List.replicate (l.length - (ds ++ [(og, s)]).length) zM := by
      rw [rep_cons zM hlt, List.set_append_right _ _ (by rw [nsRs_len]; exact Nat.le_refl _), nsRs_len, Nat.sub_self, List.set_cons_zero, ← nsRs_cat, List.append_assoc, List.length_append]; rfl
    rw [hset]
    have e1 : ((ds ++ [(og, s)]).length : Int) = (ds.length : Int) + 1 := by simp
    repeat' (first | (refine is_al ?_; (first | (refine is_move ?_; refine al_v (opx_move (.raw _)) ⟨rfl, trivial⟩ trivial rfl ?_) | (refine is_bin ?_; refine al_v (opx_add (by unfold InR; omega)) ⟨rfl, rfl, trivial⟩ trivial rfl ?_) | (refine is_assign ?_; refine al_v (opx_assign (.raw _)) ⟨rfl, trivial⟩ trivial rfl ?_) | refine al_nil ?_)) | (refine is_aw ?_; refine aw_region ?_) | refine thn_n ?_)
    refine ⟨ds ++ [(og, s)], ⟨by simp; omega, ?_, NdOk_snoc hok fun g hg => ⟨((hog g hg).1).resolve_right (hM g), (hog g hg).2⟩⟩, by simp; omega, le_mk [0] rfl rfl rfl rfl ⟨rfl, rfl, by rw [e1]; rfl, trivial⟩ ⟨rfl, trivial⟩⟩
    rw [List.map_append, hds, List.length_append, List.length_singleton, List.take_add_one, hsk]
    rfl
  · have hc : decide ((ds.length : Int) < ((smRs l).length : Int)) = false := decide_eq_false (by omega)
    repeat' (first | (refine is_al ?_; (first | (refine is_move ?_; (first | refine al_v (opx_move (.raw _)) ⟨rfl, trivial⟩ trivial rfl ?_ | refine al_v (opx_move (.sl _ _)) ⟨rfl, trivial⟩ trivial rfl ?_ | refine al_v (opx_move (.own _)) ⟨rfl, trivial⟩ trivial rfl ?_)) | (refine is_bin ?_; refine al_v opx_lss ⟨rfl, rfl, trivial⟩ trivial rfl ?_) | (refine is_assign ?_; refine al_v (opx_assign (.own _)) ⟨rfl, trivial⟩ trivial rfl ?_) | (refine is_bi ?_; refine al_v opx_len_sl ⟨rfl, trivial⟩ trivial rfl ?_) | refine al_nil ?_)) | (refine is_aw ?_; (first | refine aw_seq ?_ | refine aw_region ?_ | refine aw_ret ?_ | refine aw_exit ?_ | (refine is_cond ?_; refine aw_cond_f rfl (by assumption) ?_))))
    refine ret_row trivial rfl rfl ⟨ds, rfl, ?_, ?_, hok⟩
    · rw [show l.length - ds.length = 0 by omega]; simp
    · rw [hds, List.take_of_length_le hge]
end Go.Proofs.Ytokhfcfnhgianaa
/-
  GroupBy: where the labels of its answer lie.
-/
namespace Go.Proofs.Ytokhfcfnhgianaa
open Go.RowKit
set_option linter.unusedVariables false
set_option linter.unusedSimpArgs false
attribute [local irreducible] AL AW OpX Le AD

theorem nsRs_set {xs : List Nd} {k : Nat} {x : Nd} : (nsRs xs).set k (nsR x) = nsRs (xs.set k x) := by simp [nsRs, List.map_set]
section
variable {P : Program} {ol : List Oper} {cx : Cx} {Q : APost} {done : List Keys} {rest : List Oper} {l : SL} {m : OL} {n u : Nat} {x y : Operand} {ty e : TypeId} {pos : String} {af : Array Edge}
theorem ad_stN1 {t : TypeId} [hT : TyOne P t] {xs : List Nd} {i : Nat} {a : Int} {p : Nd} (hx : Ag (lk .dead l) x (.el u 2 i 1)) (hy : Ag (lk .dead l) y (.c (cI a))) (ho : lk .gone m u = .row 2 e (nsRs xs)) (hi : xs[i]? = some p)
    (k : AD P ol cx Q (⟨rtmps [(x, .el u 2 i 1), (y, .c (cI a))], [], [u], [u], []⟩ :: done) rest l ((u, .row 2 e (nsRs (xs.set i (p.1, p.2.1, a)))) :: m) n) : AD P ol cx Q done (⟨none, .store t x y, ty, pos, af, none⟩ :: rest) l m n := by
  rw [← nsRs_set] at k
  exact ad_s (opx_st1_el (rows := nsRs xs) (row := nsR p) (nsRs_at hi) (by omega)) ⟨hx, hy, trivial⟩ ⟨ho, trivial⟩ k
end
theorem map_at2 {ds : List Nd} {out : List Sm} {p : Nat} {s : Sm} (h : ds.map (·.2) = out) (hs : out[p]? = some s) : ∃ og, ds[p]? = some (og, s) := by
  subst h
  rw [List.getElem?_map] at hs
  cases hd : ds[p]? with
  | none => rw [hd] at hs; cases hs
  | some x => rw [hd] at hs; obtain ⟨og, s'⟩ := x; cases hs; exact ⟨og, rfl⟩
theorem map_set2 {ds : List Nd} {p : Nat} {x : Nd} : (ds.set p x).map (·.2) = (ds.map (·.2)).set p x.2 := by rw [List.map_set]
theorem NdG_set {ds : List Nd} {p : Nat} {og : Option Nat} {s s' : Sm} (h : ds[p]? = some (og, s)) : NdG (ds.set p (og, s')) = NdG ds := by
  have e : ∀ xs : List Nd, NdG xs = (xs.map (·.1)).filterMap id := fun xs => by rw [List.filterMap_map]; rfl
  have e2 : (ds.set p (og, s')).map (·.1) = ds.map (·.1) := by
    rw [List.map_set]
    refine List.ext_getElem? fun j => ?_
    rw [List.getElem?_set]
    split
    · rename_i hj; subst hj
      split
      · rw [List.getElem?_map, h]; rfl
      · rename_i hj; rw [List.getElem?_eq_none (by omega)]
    · rfl
  rw [e, e, e2]
def GrP (l : List Sm) (ns : List Str) (kind : Int) (B : Nat) (rs : List AR) (all : List OB) : Prop :=
  ∃ ds : List Nd, rs = [.one (.own 0), rB (grB l kind)] ∧ all = [.row 2 44 (nsRs ds)] ∧ ds.map (·.2) = grR ns kind l ∧ NdOk B ds
theorem c_GroupByN (l : List Sm) (ns : List Str) (kind : Int) (hL : l.length ≤ 2000000) (hb : smBig l) (hns : ns.length ≤ 1000000000) : ConB Try.prog 9 [slM l, slS ns, rI kind] [] (GrP l ns kind) := by
  have hlr := smRs_len (xs := l)
  have n1 : (!true) = false := rfl
  have n2 : (!false) = true := rfl
  have hcv := c_ValidSamples l hL hb
  refine con_of_awB (vars := [.tmp 6, .tmp 7]) [(0, .r (slM l)), (1, .r (slS ns)), (2, .r (rI kind))] [] 0 Try.func9 (by kernel_rfl) rfl Try.ntmps9 rfl (by decide) rfl rfl rfl rfl rfl ?_; intro B M w0 ρ0 Z0 hM
  have hM := hM rfl
  by_cases hk : 0 ≤ kind ∧ kind ≤ 3
  · have e1 : decide (kind < 0) = false := decide_eq_false (by omega)
    have e2 : decide (3 < kind) = false := decide_eq_false (by omega)
    cases hv : vsmB l
    · rw [hv] at hcv
      have f1 : grB l kind = false := by rw [grB, hv]; rfl
      have f2 : grR ns kind l = [] := by rw [grR, f1]; rfl
      repeat' (first | (refine is_al ?_; (first | (refine is_gd ?_; refine al_on rfl rfl rfl (by assumption) ?_) | (refine is_move ?_; (first | refine al_v (opx_move (.raw _)) ⟨rfl, trivial⟩ trivial rfl ?_ | refine al_v (opx_move (.sl _ _)) ⟨rfl, trivial⟩ trivial rfl ?_)) | (refine is_bin ?_; (first | refine al_v opx_lss ⟨rfl, rfl, trivial⟩ trivial rfl ?_ | refine al_v opx_gtr ⟨rfl, rfl, trivial⟩ trivial rfl ?_)) | (refine is_assign ?_; refine al_v (opx_assign (.raw _)) ⟨rfl, trivial⟩ trivial rfl ?_) | (refine is_pick ?_; refine al_v (opx_pick_f (.raw _) (by assumption)) ⟨rfl, rfl, trivial⟩ trivial rfl ?_) | (refine is_call ?_; refine al_callv2 (by (repeat (first | exact .nil | refine .one rfl rfl ?_ | refine .froz rfl rfl ?_ | refine .row rfl rfl ?_ | refine .rnil rfl ?_ | refine .agg rfl (by (repeat (first | exact .nil | refine .cons (.same rfl) ?_ | refine .cons (.froz rfl) ?_ | refine .cons (.rnil) ?_ | refine .cons (.row rfl rfl) ?_)); (first | done | fail)) ?_)); (first | done | fail)) rfl (hcv) rfl ?_) | refine al_v opx_not ⟨rfl, trivial⟩ trivial rfl ?_ | refine al_nil ?_)) | (refine is_aw ?_; (first | refine aw_seq ?_ | refine aw_region ?_ | (refine is_cond ?_; refine aw_cond_t rfl rfl ?_))) | refine thn_n ?_)
      refine aw_le (le_ownNil 6 2 44 rfl) ?_
      repeat' (first | (refine is_aw ?_; refine aw_ret ?_) | refine thn_r ?_)
      exact ret_row_raw trivial rfl rfl rfl ⟨[], by rw [f1], rfl, by rw [f2]; rfl, NdOk_nil⟩
    · rw [hv] at hcv
      have hVS := vsmB_of hv
      have h8 := hVS.1
      have f1 : grB l kind = true := by rw [grB, hv, decide_eq_true hk]; rfl
      have f2 : grR ns kind l = grp ns kind l := by rw [grR, if_pos f1]
      repeat' (first | (refine is_al ?_; (first | (refine is_gd ?_; refine al_on rfl rfl rfl (by assumption) ?_) | (refine is_move ?_; (first | refine al_v (opx_move (.raw _)) ⟨rfl, trivial⟩ trivial rfl ?_ | refine al_v (opx_move (.sl _ _)) ⟨rfl, trivial⟩ trivial rfl ?_)) | (refine is_bin ?_; (first | refine al_v opx_lss ⟨rfl, rfl, trivial⟩ trivial rfl ?_ | refine al_v opx_gtr ⟨rfl, rfl, trivial⟩ trivial rfl ?_)) | (refine is_assign ?_; (first | refine al_v (opx_assign (.raw _)) ⟨rfl, trivial⟩ trivial rfl ?_ | refine al_v (opx_assign (.own _)) ⟨rfl, trivial⟩ trivial rfl ?_)) | (refine is_pick ?_; refine al_v (opx_pick_f (.raw _) (by assumption)) ⟨rfl, rfl, trivial⟩ trivial rfl ?_) | (refine is_bi ?_; refine al_v opx_len_sl ⟨rfl, trivial⟩ trivial rfl ?_) | (refine is_call ?_; refine al_callv2 (by (repeat (first | exact .nil | refine .one rfl rfl ?_ | refine .froz rfl rfl ?_ | refine .row rfl rfl ?_ | refine .rnil rfl ?_ | refine .agg rfl (by (repeat (first | exact .nil | refine .cons (.same rfl) ?_ | refine .cons (.froz rfl) ?_ | refine .cons (.rnil) ?_ | refine .cons (.row rfl rfl) ?_)); (first | done | fail)) ?_)); (first | done | fail)) rfl (hcv) rfl ?_) | refine al_v opx_not ⟨rfl, trivial⟩ trivial rfl ?_ | refine al_nil ?_ | refine al_n opx_mkMap trivial trivial rfl ?_)) | (refine is_ad ?_; refine al_n opx_mkMap trivial trivial rfl ?_) | (refine is_aw ?_; (first | refine aw_seq ?_ | refine aw_region ?_ | refine aw_skip ?_ | refine aw_block ?_ | (refine is_cond ?_; refine aw_cond_f rfl rfl ?_))))
      refine aw_le (le_ownNil 9 2 44 rfl) ?_
      refine aw_loop (γ := Nat × List Nd) (fun g => [(1, .r (slS ns)), (2, .r (rI kind)), (8, .own 0), (9, .own 1), (28, .r (slM l)), (29, .i ((smRs l).length : Int)), (30, .i (g.1 : Int))]) (fun g => [(0, mpO (kTx (grp ns kind (l.take g.1)))), (1, .row 2 44 (nsRs g.2))]) (fun _ => 2) (fun g => g.1 ≤ l.length ∧ g.2.map (·.2) = grp ns kind (l.take g.1) ∧ NdOk B g.2) (fun g => l.length - g.1) (0, []) ⟨Nat.zero_le _, rfl, NdOk_nil⟩ (le_mk [0, 1] rfl rfl rfl rfl ⟨rfl, rfl, rfl, rfl, rfl, rfl, rfl, trivial⟩ ⟨rfl, rfl, trivial⟩) ?_
      rintro ⟨k, ds⟩ ⟨hk1, hds, hok⟩
      dsimp only at hk1 hds hok ⊢
      have hgl := grp_len (ns := ns) (kind := kind) (l := l.take k)
      have hlk : (l.take k).length = k := by rw [List.length_take]; omega
      rcases Nat.lt_or_ge k l.length with hlt | hge
      · have hc1 : decide ((k : Int) < ((smRs l).length : Int)) = true := decide_eq_true (by omega)
        obtain ⟨s, hs⟩ : ∃ s, l[k]? = some s := ⟨_, List.getElem?_eq_getElem hlt⟩
        have hsr := smRs_at hs
        obtain ⟨a1, a2, a3⟩ := VSm_mem hVS (List.mem_of_getElem? hs)
        have hKV := VL_keep (ns := ns) a1
        have hck := c_KeepLabels s.1 ns a1 hns
        have hcf := c_FormatLabels (keepL ns s.1) (fun x hx => by obtain ⟨q1, q2⟩ := VL_mem hKV hx; exact ⟨by have := q1.2.1; unfold BIG; omega, by have := q2.2.1; unfold BIG; omega⟩) (by have := hKV.1; unfold BIG; omega)
        rw [fmt_t (vlB_t hKV)] at hcf
        have hoV : ∀ t ∈ grp ns kind (l.take k), VL t.1 := grp_VL _ fun t ht => (VSm_mem hVS (List.mem_of_mem_take ht)).1
        have hsm := grp_small (ns := ns) (kind := kind) (l.take k) (fun t ht => (VSm_mem hVS (List.mem_of_mem_take ht)).2)
        have hpos := kTx_pos hoV hKV
        have hkl := kTx_len (out := grp ns kind (l.take k))
        have hst := grp_take (ns := ns) (kind := kind) hs
        rw [hlk] at hgl hsm
        generalize hout : grp ns kind (l.take k) = out at hgl hoV hsm hpos hkl hst hds
        generalize hkey : keepL ns s.1 = key at hKV hck hcf hpos hst
        have hdl : ds.length = out.length := by rw [← hds, List.length_map]
        have hor := nsRs_len (xs := ds)
        by_cases hp : pos out key < out.length
        · obtain ⟨a, ha⟩ := pos_at hp
          rw [upd_old ha] at hst
          have hsv := hsm _ (List.mem_of_getElem? ha)
          dsimp only at hsv
          generalize hP : pos out key = p at hpos hst ha hp
          have g1 : (if mpI (kTx out) (txt key) < (kTx out).length then (mpI (kTx out) (txt key) : Int) else 0) = (p : Int) := by rw [hpos, if_pos (by omega)]
          have g2 : decide (mpI (kTx out) (txt key) < (kTx out).length) = true := by rw [hpos]; exact decide_eq_true (by omega)
          obtain ⟨og, had⟩ := map_at2 hds ha
          have har := nsRs_at had
          have hpl : p < (nsRs ds).length := by omega
          have hks := kTx_set (b := foldV kind a s.2) ha
          repeat' (first | (refine is_al ?_; (first | (refine is_move ?_; (first | refine al_v (opx_move (.raw _)) ⟨rfl, trivial⟩ trivial rfl ?_ | refine al_v (opx_move (.sl _ _)) ⟨rfl, trivial⟩ trivial rfl ?_ | refine al_v (opx_move (.own _)) ⟨rfl, trivial⟩ trivial rfl ?_ | refine al_v (opx_move (.tup _)) ⟨rfl, trivial⟩ trivial rfl ?_)) | (refine is_bin ?_; (first | refine al_v opx_lss ⟨rfl, rfl, trivial⟩ trivial rfl ?_ | refine al_v (opx_add (by unfold InR; omega)) ⟨rfl, rfl, trivial⟩ trivial rfl ?_)) | (refine is_load ?_; (first | refine al_v opx_ld2_imm ⟨rfl, trivial⟩ trivial rfl ?_ | refine al_v (opx_ld_box rfl) ⟨rfl, trivial⟩ ⟨rfl, trivial⟩ rfl ?_)) | (refine is_fa ?_; refine al_v opx_fa_ref ⟨rfl, trivial⟩ trivial rfl ?_) | (refine is_assign ?_; (first | refine al_v (opx_assign (.raw _)) ⟨rfl, trivial⟩ trivial rfl ?_ | refine al_v (opx_assign (.own _)) ⟨rfl, trivial⟩ trivial rfl ?_)) | (refine is_ia ?_; refine al_v (opx_ia_sl2 hsr (by omega)) ⟨rfl, rfl, trivial⟩ trivial rfl ?_) | (refine is_call ?_; (first | refine al_callr2 (by (repeat (first | exact .nil | refine .one rfl rfl ?_ | refine .froz rfl rfl ?_ | refine .rnil rfl ?_ | refine .agg rfl (by (repeat (first | exact .nil | refine .cons (.same rfl) ?_ | refine .cons (.froz rfl) ?_ | refine .cons (.rnil) ?_)); (first | done | fail)) ?_)); (first | done | fail)) rfl (hck) ?_ | refine al_callv2 (by (repeat (first | exact .nil | refine .one rfl rfl ?_ | refine .froz rfl rfl ?_ | refine .row rfl rfl ?_ | refine .rnil rfl ?_ | refine .agg rfl (by (repeat (first | exact .nil | refine .cons (.same rfl) ?_ | refine .cons (.froz rfl) ?_ | refine .cons (.rnil) ?_ | refine .cons (.row rfl rfl) ?_)); (first | done | fail)) ?_)); (first | done | fail)) rfl (hcf) rfl ?_)) | (refine is_st ?_; refine al_s (opx_sts_box (by rfl) (by rfl)) ⟨rfl, rfl, trivial⟩ ⟨rfl, trivial⟩ ?_) | refine al_v (opx_extract _ rfl) ⟨rfl, trivial⟩ trivial rfl ?_ | refine al_n opx_alloc trivial trivial rfl ?_ | refine al_nil ?_ | refine al_v (opx_mapGetE g1 g2) ⟨rfl, rfl, trivial⟩ ⟨rfl, trivial⟩ rfl ?_ | refine ad_stN1 rfl rfl rfl had ?_)) | (refine is_ad ?_; (first | (refine isd_move ?_; (first | refine ad_v (opx_move (.raw _)) ⟨rfl, trivial⟩ trivial rfl ?_ | refine ad_v (opx_move (.own _)) ⟨rfl, trivial⟩ trivial rfl ?_)) | (refine isd_load ?_; (first | refine ad_v (opx_ld_box rfl) ⟨rfl, trivial⟩ ⟨rfl, trivial⟩ rfl ?_ | refine ad_v (opx_ld_el (by assumption) rfl) ⟨rfl, trivial⟩ ⟨rfl, trivial⟩ rfl ?_)) | (refine isd_fa ?_; (first | refine ad_v opx_fa_ref ⟨rfl, trivial⟩ trivial rfl ?_ | refine ad_v opx_fa_el ⟨rfl, trivial⟩ trivial rfl ?_)) | (refine isd_ia ?_; refine ad_v (opx_ia_own2 hpl (by omega)) ⟨rfl, rfl, trivial⟩ ⟨rfl, trivial⟩ rfl ?_) | (refine isd_call ?_; refine ad_callv2 (by (repeat (first | exact .nil | refine .one rfl rfl ?_ | refine .froz rfl rfl ?_ | refine .row rfl rfl ?_ | refine .rnil rfl ?_ | refine .agg rfl (by (repeat (first | exact .nil | refine .cons (.same rfl) ?_ | refine .cons (.froz rfl) ?_ | refine .cons (.rnil) ?_ | refine .cons (.row rfl rfl) ?_)); (first | done | fail)) ?_)); (first | done | fail)) rfl (c_groupValue kind a s.2 (by omega) (by omega)) rfl ?_) | refine ad_nil (by kernel_rfl) ?_ | refine al_v (opx_mapGetE g1 g2) ⟨rfl, rfl, trivial⟩ ⟨rfl, trivial⟩ rfl ?_ | refine ad_stN1 rfl rfl rfl had ?_)) | (refine is_aw ?_; (first | refine aw_seq ?_ | refine aw_region ?_ | refine aw_skip ?_ | refine aw_block ?_ | refine aw_exit ?_ | (refine is_cond ?_; (first | refine aw_cond_t rfl rfl ?_ | refine aw_cond_t rfl (by assumption) ?_)) | refine aw_draw mixed ?_)) | refine thn_n ?_)
          exact ⟨(k + 1, ds.set p (og, key, foldV kind a s.2)), ⟨hlt, by rw [map_set2, hds, hst], by rw [NdOk, NdG_set had]; exact hok⟩, by dsimp only; omega, le_mk [0, 1] rfl rfl rfl rfl ⟨rfl, rfl, rfl, rfl, rfl, rfl, rfl, trivial⟩ ⟨by rw [hst, hks]; rfl, rfl, trivial⟩⟩
        · rw [upd_new hp] at hst
          have g1 : (if mpI (kTx out) (txt key) < (kTx out).length then (mpI (kTx out) (txt key) : Int) else 0) = 0 := by rw [hpos, if_neg (by omega)]
          have g2 : decide (mpI (kTx out) (txt key) < (kTx out).length) = false := by rw [hpos]; exact decide_eq_false (by omega)
          have hnp : ¬ mpI (kTx out) (txt key) < (kTx out).length := by rw [hpos]; omega
          by_cases h3 : kind = 3
          · have e3 : decide (kind = 3) = true := decide_eq_true h3
            have hf : fstV kind s.2 = 1 := by rw [fstV, if_pos h3]
            rw [hf] at hst
            have hkt : kTx (out ++ [(key, (1 : Int))]) = kTx out ++ [txt key] := by rw [kTx, List.map_append]; rfl
            repeat' (first | (refine is_al ?_; (first | (refine is_move ?_; (first | refine al_v (opx_move (.raw _)) ⟨rfl, trivial⟩ trivial rfl ?_ | refine al_v (opx_move (.sl _ _)) ⟨rfl, trivial⟩ trivial rfl ?_ | refine al_v (opx_move (.own _)) ⟨rfl, trivial⟩ trivial rfl ?_ | refine al_v (opx_move (.tup _)) ⟨rfl, trivial⟩ trivial rfl ?_)) | (refine is_bin ?_; (first | refine al_v opx_eql ⟨rfl, rfl, trivial⟩ trivial rfl ?_ | refine al_v opx_lss ⟨rfl, rfl, trivial⟩ trivial rfl ?_)) | (refine is_load ?_; (first | refine al_v opx_ld2_imm ⟨rfl, trivial⟩ trivial rfl ?_ | refine al_v (opx_ld_box rfl) ⟨rfl, trivial⟩ ⟨rfl, trivial⟩ rfl ?_)) | (refine is_fa ?_; refine al_v opx_fa_ref ⟨rfl, trivial⟩ trivial rfl ?_) | (refine is_assign ?_; (first | refine al_v (opx_assign (.raw _)) ⟨rfl, trivial⟩ trivial rfl ?_ | refine al_v (opx_assign (.own _)) ⟨rfl, trivial⟩ trivial rfl ?_)) | (refine is_ia ?_; refine al_v (opx_ia_sl2 hsr (by omega)) ⟨rfl, rfl, trivial⟩ trivial rfl ?_) | (refine is_call ?_; (first | refine al_callr2 (by (repeat (first | exact .nil | refine .one rfl rfl ?_ | refine .froz rfl rfl ?_ | refine .rnil rfl ?_ | refine .agg rfl (by (repeat (first | exact .nil | refine .cons (.same rfl) ?_ | refine .cons (.froz rfl) ?_ | refine .cons (.rnil) ?_)); (first | done | fail)) ?_)); (first | done | fail)) rfl (hck) ?_ | refine al_callv2 (by (repeat (first | exact .nil | refine .one rfl rfl ?_ | refine .froz rfl rfl ?_ | refine .row rfl rfl ?_ | refine .rnil rfl ?_ | refine .agg rfl (by (repeat (first | exact .nil | refine .cons (.same rfl) ?_ | refine .cons (.froz rfl) ?_ | refine .cons (.rnil) ?_ | refine .cons (.row rfl rfl) ?_)); (first | done | fail)) ?_)); (first | done | fail)) rfl (hcf) rfl ?_)) | (refine is_st ?_; refine al_s (opx_sts_box (by rfl) (by rfl)) ⟨rfl, rfl, trivial⟩ ⟨rfl, trivial⟩ ?_) | refine al_v (opx_extract _ rfl) ⟨rfl, trivial⟩ trivial rfl ?_ | refine al_v (opx_build2 (res := [_, _]) rfl) ⟨rfl, rfl, trivial⟩ trivial rfl ?_ | refine al_n opx_alloc trivial trivial rfl ?_ | refine al_nil ?_ | refine al_v (opx_mapGetE g1 g2) ⟨rfl, rfl, trivial⟩ ⟨rfl, trivial⟩ rfl ?_)) | (refine is_ad ?_; refine al_v (opx_mapGetE g1 g2) ⟨rfl, rfl, trivial⟩ ⟨rfl, trivial⟩ rfl ?_) | (refine is_aw ?_; (first | refine aw_seq ?_ | refine aw_region ?_ | refine aw_skip ?_ | refine aw_block ?_ | (refine is_cond ?_; (first | refine aw_cond_f rfl rfl ?_ | refine aw_cond_t rfl (by assumption) ?_)))))
            refine al_blkAgg 73 3 1 rfl rfl rfl fun og hog => ?_
            rw [ogs_nsRs] at hog
            refine al_push2 (rows := nsRs ds) (rows' := nsRs (ds ++ [(og, key, (1 : Int))])) (by rw [← nsRs_cat]; rfl) ⟨rfl, trivial⟩ rfl rfl rfl rfl rfl (by omega) ?_
            have hor2 := nsRs_len (xs := ds ++ [(og, key, (1 : Int))])
            have hll : (ds ++ [(og, key, (1 : Int))]).length = ds.length + 1 := by rw [List.length_append]; rfl
            have hzz : (kTx out).length = ds.length := by omega
            repeat' (first | (refine is_al ?_; (first | (refine is_move ?_; (first | refine al_v (opx_move (.raw _)) ⟨rfl, trivial⟩ trivial rfl ?_ | refine al_v (opx_move (.own _)) ⟨rfl, trivial⟩ trivial rfl ?_)) | (refine is_bin ?_; (first | refine al_v (opx_add (by unfold InR; omega)) ⟨rfl, rfl, trivial⟩ trivial rfl ?_ | refine al_v (opx_sub (by unfold InR; omega)) ⟨rfl, rfl, trivial⟩ trivial rfl ?_)) | (refine is_assign ?_; refine al_v (opx_assign (.own _)) ⟨rfl, trivial⟩ trivial rfl ?_) | (refine is_bi ?_; refine al_v opx_len_own ⟨rfl, trivial⟩ ⟨rfl, trivial⟩ rfl ?_) | refine al_nil ?_ | refine al_s (opx_mapPut hnp (by omega)) ⟨rfl, rfl, rfl, trivial⟩ ⟨rfl, trivial⟩ ?_)) | (refine is_ad ?_; refine al_s (opx_mapPut hnp (by omega)) ⟨rfl, rfl, rfl, trivial⟩ ⟨rfl, trivial⟩ ?_) | (refine is_aw ?_; refine aw_region ?_) | refine thn_n ?_)
            exact ⟨(k + 1, ds ++ [(og, key, (1 : Int))]), ⟨hlt, by rw [List.map_append, hds, hst]; rfl, NdOk_snoc hok fun g hg => ⟨((hog g hg).1).resolve_right (hM g), (hog g hg).2⟩⟩, by dsimp only; omega, le_mk [0, _] rfl rfl rfl rfl ⟨rfl, rfl, rfl, rfl, rfl, rfl, rfl, trivial⟩ ⟨by rw [hst, hkt]; rfl, rfl, trivial⟩⟩
          · have e3 : decide (kind = 3) = false := decide_eq_false h3
            have hf : fstV kind s.2 = s.2 := by rw [fstV, if_neg h3]
            rw [hf] at hst
            have hkt : kTx (out ++ [(key, s.2)]) = kTx out ++ [txt key] := by rw [kTx, List.map_append]; rfl
            repeat' (first | (refine is_al ?_; (first | (refine is_move ?_; (first | refine al_v (opx_move (.raw _)) ⟨rfl, trivial⟩ trivial rfl ?_ | refine al_v (opx_move (.sl _ _)) ⟨rfl, trivial⟩ trivial rfl ?_ | refine al_v (opx_move (.own _)) ⟨rfl, trivial⟩ trivial rfl ?_ | refine al_v (opx_move (.tup _)) ⟨rfl, trivial⟩ trivial rfl ?_)) | (refine is_bin ?_; (first | refine al_v opx_eql ⟨rfl, rfl, trivial⟩ trivial rfl ?_ | refine al_v opx_lss ⟨rfl, rfl, trivial⟩ trivial rfl ?_)) | (refine is_load ?_; (first | refine al_v opx_ld2_imm ⟨rfl, trivial⟩ trivial rfl ?_ | refine al_v (opx_ld_box rfl) ⟨rfl, trivial⟩ ⟨rfl, trivial⟩ rfl ?_)) | (refine is_fa ?_; refine al_v opx_fa_ref ⟨rfl, trivial⟩ trivial rfl ?_) | (refine is_assign ?_; (first | refine al_v (opx_assign (.raw _)) ⟨rfl, trivial⟩ trivial rfl ?_ | refine al_v (opx_assign (.own _)) ⟨rfl, trivial⟩ trivial rfl ?_)) | (refine is_ia ?_; refine al_v (opx_ia_sl2 hsr (by omega)) ⟨rfl, rfl, trivial⟩ trivial rfl ?_) | (refine is_call ?_; (first | refine al_callr2 (by (repeat (first | exact .nil | refine .one rfl rfl ?_ | refine .froz rfl rfl ?_ | refine .rnil rfl ?_ | refine .agg rfl (by (repeat (first | exact .nil | refine .cons (.same rfl) ?_ | refine .cons (.froz rfl) ?_ | refine .cons (.rnil) ?_)); (first | done | fail)) ?_)); (first | done | fail)) rfl (hck) ?_ | refine al_callv2 (by (repeat (first | exact .nil | refine .one rfl rfl ?_ | refine .froz rfl rfl ?_ | refine .row rfl rfl ?_ | refine .rnil rfl ?_ | refine .agg rfl (by (repeat (first | exact .nil | refine .cons (.same rfl) ?_ | refine .cons (.froz rfl) ?_ | refine .cons (.rnil) ?_ | refine .cons (.row rfl rfl) ?_)); (first | done | fail)) ?_)); (first | done | fail)) rfl (hcf) rfl ?_)) | (refine is_st ?_; refine al_s (opx_sts_box (by rfl) (by rfl)) ⟨rfl, rfl, trivial⟩ ⟨rfl, trivial⟩ ?_) | refine al_v (opx_extract _ rfl) ⟨rfl, trivial⟩ trivial rfl ?_ | refine al_v (opx_build2 (res := [_, _]) rfl) ⟨rfl, rfl, trivial⟩ trivial rfl ?_ | refine al_n opx_alloc trivial trivial rfl ?_ | refine al_nil ?_ | refine al_v (opx_mapGetE g1 g2) ⟨rfl, rfl, trivial⟩ ⟨rfl, trivial⟩ rfl ?_)) | (refine is_ad ?_; refine al_v (opx_mapGetE g1 g2) ⟨rfl, rfl, trivial⟩ ⟨rfl, trivial⟩ rfl ?_) | (refine is_aw ?_; (first | refine aw_seq ?_ | refine aw_region ?_ | refine aw_skip ?_ | refine aw_block ?_ | (refine is_cond ?_; (first | refine aw_cond_f rfl rfl ?_ | refine aw_cond_t rfl (by assumption) ?_ | refine aw_cond_f rfl (by assumption) ?_)))))
            refine al_blkAgg 50 3 1 rfl rfl rfl fun og hog => ?_
            rw [ogs_nsRs] at hog
            refine al_push2 (rows := nsRs ds) (rows' := nsRs (ds ++ [(og, key, s.2)])) (by rw [← nsRs_cat]; rfl) ⟨rfl, trivial⟩ rfl rfl rfl rfl rfl (by omega) ?_
            have hor2 := nsRs_len (xs := ds ++ [(og, key, s.2)])
            have hll : (ds ++ [(og, key, s.2)]).length = ds.length + 1 := by rw [List.length_append]; rfl
            have hzz : (kTx out).length = ds.length := by omega
            repeat' (first | (refine is_al ?_; (first | (refine is_move ?_; (first | refine al_v (opx_move (.raw _)) ⟨rfl, trivial⟩ trivial rfl ?_ | refine al_v (opx_move (.own _)) ⟨rfl, trivial⟩ trivial rfl ?_)) | (refine is_bin ?_; (first | refine al_v (opx_add (by unfold InR; omega)) ⟨rfl, rfl, trivial⟩ trivial rfl ?_ | refine al_v (opx_sub (by unfold InR; omega)) ⟨rfl, rfl, trivial⟩ trivial rfl ?_)) | (refine is_assign ?_; refine al_v (opx_assign (.own _)) ⟨rfl, trivial⟩ trivial rfl ?_) | (refine is_bi ?_; refine al_v opx_len_own ⟨rfl, trivial⟩ ⟨rfl, trivial⟩ rfl ?_) | refine al_nil ?_ | refine al_s (opx_mapPut hnp (by omega)) ⟨rfl, rfl, rfl, trivial⟩ ⟨rfl, trivial⟩ ?_)) | (refine is_ad ?_; refine al_s (opx_mapPut hnp (by omega)) ⟨rfl, rfl, rfl, trivial⟩ ⟨rfl, trivial⟩ ?_) | (refine is_aw ?_; refine aw_region ?_) | refine thn_n ?_)
            exact ⟨(k + 1, ds ++ [(og, key, s.2)]), ⟨hlt, by rw [List.map_append, hds, hst]; rfl, NdOk_snoc hok fun g hg => ⟨((hog g hg).1).resolve_right (hM g), (hog g hg).2⟩⟩, by dsimp only; omega, le_mk [0, _] rfl rfl rfl rfl ⟨rfl, rfl, rfl, rfl, rfl, rfl, rfl, trivial⟩ ⟨by rw [hst, hkt]; rfl, rfl, trivial⟩⟩
      · have hc1 : decide ((k : Int) < ((smRs l).length : Int)) = false := decide_eq_false (by omega)
        rw [List.take_of_length_le hge] at hds
        repeat' (first | (refine is_al ?_; (first | (refine is_move ?_; refine al_v (opx_move (.own _)) ⟨rfl, trivial⟩ trivial rfl ?_) | (refine is_bin ?_; refine al_v opx_lss ⟨rfl, rfl, trivial⟩ trivial rfl ?_) | (refine is_assign ?_; (first | refine al_v (opx_assign (.raw _)) ⟨rfl, trivial⟩ trivial rfl ?_ | refine al_v (opx_assign (.own _)) ⟨rfl, trivial⟩ trivial rfl ?_)) | refine al_nil ?_)) | (refine is_aw ?_; (first | refine aw_seq ?_ | refine aw_region ?_ | refine aw_ret ?_ | refine aw_exit ?_ | (refine is_cond ?_; refine aw_cond_f rfl (by assumption) ?_))))
        exact ret_row_raw trivial rfl rfl rfl ⟨ds, by rw [f1], rfl, by rw [f2, hds], hok⟩
  · have f1 : grB l kind = false := by rw [grB, decide_eq_false hk, Bool.and_false]
    have f2 : grR ns kind l = [] := by rw [grR, f1]; rfl
    by_cases h0 : kind < 0
    · have e1 : decide (kind < 0) = true := decide_eq_true h0
      repeat' (first | (refine is_al ?_; (first | (refine is_gd ?_; refine al_off rfl rfl rfl (by assumption) rfl ?_) | (refine is_move ?_; refine al_v (opx_move (.raw _)) ⟨rfl, trivial⟩ trivial rfl ?_) | (refine is_bin ?_; refine al_v opx_lss ⟨rfl, rfl, trivial⟩ trivial rfl ?_) | (refine is_assign ?_; refine al_v (opx_assign (.raw _)) ⟨rfl, trivial⟩ trivial rfl ?_) | (refine is_pick ?_; (first | refine al_v (opx_pick_t (.raw _) rfl) ⟨rfl, rfl, trivial⟩ trivial rfl ?_ | refine al_v (opx_pick_t (.raw _) (by assumption)) ⟨rfl, rfl, trivial⟩ trivial rfl ?_)) | refine al_nil ?_)) | (refine is_aw ?_; (first | refine aw_seq ?_ | refine aw_region ?_ | (refine is_cond ?_; refine aw_cond_t rfl rfl ?_))) | refine thn_n ?_)
      refine aw_le (le_ownNil 6 2 44 rfl) ?_
      repeat' (first | (refine is_aw ?_; refine aw_ret ?_) | refine thn_r ?_)
      exact ret_row_raw trivial rfl rfl rfl ⟨[], by rw [f1], rfl, by rw [f2]; rfl, NdOk_nil⟩
    · have e1 : decide (kind < 0) = false := decide_eq_false h0
      have e2 : decide (3 < kind) = true := decide_eq_true (by omega)
      repeat' (first | (refine is_al ?_; (first | (refine is_gd ?_; (first | refine al_on rfl rfl rfl (by assumption) ?_ | refine al_off rfl rfl rfl (by assumption) rfl ?_)) | (refine is_move ?_; refine al_v (opx_move (.raw _)) ⟨rfl, trivial⟩ trivial rfl ?_) | (refine is_bin ?_; (first | refine al_v opx_lss ⟨rfl, rfl, trivial⟩ trivial rfl ?_ | refine al_v opx_gtr ⟨rfl, rfl, trivial⟩ trivial rfl ?_)) | (refine is_assign ?_; refine al_v (opx_assign (.raw _)) ⟨rfl, trivial⟩ trivial rfl ?_) | (refine is_pick ?_; (first | refine al_v (opx_pick_t (.raw _) (by assumption)) ⟨rfl, rfl, trivial⟩ trivial rfl ?_ | refine al_v (opx_pick_f (.raw _) (by assumption)) ⟨rfl, rfl, trivial⟩ trivial rfl ?_)) | refine al_nil ?_)) | (refine is_aw ?_; (first | refine aw_seq ?_ | refine aw_region ?_ | (refine is_cond ?_; refine aw_cond_t rfl rfl ?_))) | refine thn_n ?_)
      refine aw_le (le_ownNil 6 2 44 rfl) ?_
      repeat' (first | (refine is_aw ?_; refine aw_ret ?_) | refine thn_r ?_)
      exact ret_row_raw trivial rfl rfl rfl ⟨[], by rw [f1], rfl, by rw [f2]; rfl, NdOk_nil⟩
end Go.Proofs.Ytokhfcfnhgianaa
/-
  Walks in which each slot holds a value itself, and what lies in memory is said apart.
-/
namespace Go.Proofs.Ytokhfcfnhgianaa
open Go.RowKit
set_option linter.unusedVariables false
set_option linter.unusedSimpArgs false

/-- From w to w': blocks from a up to b may differ. -/
structure Fr (a b : Nat) (w w' : World) : Prop where
  os : w'.os = w.os
  tape : w'.tape = w.tape
  output : w'.output = w.output
  size : w.heap.size ≤ w'.heap.size
  old : ∀ g, g < w.heap.size → ¬ (a ≤ g ∧ g < b) → w'.heap[g]? = w.heap[g]?
theorem Fr.refl (a b : Nat) (w : World) : Fr a b w w := ⟨rfl, rfl, rfl, Nat.le_refl _, fun _ _ _ => rfl⟩
abbrev Kp (w w' : World) : Prop := Fr 0 0 w w'
theorem Kp.at {w w' : World} (h : Kp w w') {g : Nat} (hg : g < w.heap.size) : w'.heap[g]? = w.heap[g]? := h.old g hg (by omega)
theorem Fr.trans {a b : Nat} {w w' w'' : World} (h : Fr a b w w') (h2 : Fr a b w' w'') : Fr a b w w'' :=
  ⟨h2.os.trans h.os, h2.tape.trans h.tape, h2.output.trans h.output, Nat.le_trans h.size h2.size, fun g hg hn => (h2.old g (Nat.lt_of_lt_of_le hg h.size) hn).trans (h.old g hg hn)⟩
theorem Kp.fr {a b : Nat} {w w' : World} (h : Kp w w') : Fr a b w w' := ⟨h.os, h.tape, h.output, h.size, fun g hg _ => h.at hg⟩
/-- What is written lies behind w's blocks. -/
theorem Fr.kp {a b : Nat} {w w' w'' : World} (h : Kp w w') (h2 : Fr a b w' w'') (ha : w.heap.size ≤ a) : Kp w w'' :=
  ⟨h2.os.trans h.os, h2.tape.trans h.tape, h2.output.trans h.output, Nat.le_trans h.size h2.size, fun g hg _ => (h2.old g (Nat.lt_of_lt_of_le hg h.size) (by omega)).trans (h.at hg)⟩

abbrev cxw (N : Nat) (w : World) : Cx := ⟨N, w.heap.size, fun _ => False, w, 0, fun _ => undef, fun _ => False⟩
def rawA : AR → Bool
  | .one (.c (.raw _)) => true
  | _ => false
def rawB : AV → Bool
  | .r x => rawA x
  | .tup xs => xs.all rawA
  | .dead => true
theorem rawA_of {x : AR} (h : rawA x = true) : ∃ v, x = .one (.c (.raw v)) := by
  match x, h with
  | .one (.c (.raw v)), _ => exact ⟨v, rfl⟩
theorem rawA_dr {x : AR} (h : rawA x = true) {ρ ρ' : Nat → Value} {Z Z' : Nat → Prop} {w w' : World} {v : Value} (hd : DR ρ Z w x v) : DR ρ' Z' w' x v := by
  obtain ⟨u, rfl⟩ := rawA_of h
  have h' : DC Z w (.raw u) v := hd
  cases h'
  exact DC.raw _ ‹_›
theorem rawA_drl {ρ ρ' : Nat → Value} {Z Z' : Nat → Prop} {w w' : World} : ∀ {xs : List AR} {us : List Value}, xs.all rawA = true → DRL ρ Z w xs us → DRL ρ' Z' w' xs us
  | [], [], _, _ => trivial
  | x :: xs, u :: us, h, hd => by
    simp only [List.all_cons, Bool.and_eq_true] at h
    exact ⟨rawA_dr h.1 hd.1, rawA_drl h.2 hd.2⟩
  | [], _ :: _, _, h => h.elim
  | _ :: _, [], _, h => h.elim
theorem rawB_tags {x : AV} (h : rawB x = true) : x.tags = [] := by
  cases x with
  | r x => obtain ⟨u, rfl⟩ := rawA_of h; rfl
  | dead => rfl
  | tup xs =>
    simp only [rawB, List.all_eq_true] at h
    simp only [AV.tags, List.flatMap_eq_nil_iff]
    intro r hr
    obtain ⟨u, rfl⟩ := rawA_of (h r hr)
    rfl
theorem rawB_da {x : AV} (h : rawB x = true) {ρ ρ' : Nat → Value} {Z Z' : Nat → Prop} {w w' : World} {v : Value} (hd : DA ρ Z w x v) : DA ρ' Z' w' x v := by
  cases x with
  | r x => exact rawA_dr h hd
  | dead => trivial
  | tup xs => obtain ⟨us, h1, h2⟩ := hd; exact ⟨us, h1, rawA_drl h h2⟩
theorem st_raw {N : Nat} {l : SL} (hr : l.all (fun p => rawB p.2) = true) {a : Act} {w : World} (hs : a.tmps.size = N) (hd : a.defers = [])
    (h : ∀ t, DA (fun _ => undef) (fun _ => False) w (lk .dead l t) (a.tmps.getD t undef)) : St (cxw N w) l [] 0 a w := by
  have hall : ∀ t, rawB (lk .dead l t) = true := fun t => lk_all (p := fun x => rawB x = true) rfl (fun x hx => by rw [List.all_eq_true] at hr; exact hr x hx) t
  refine ⟨fun _ => undef, fun _ => False, hs, hd, h, fun t => trivial, (fun t t' g h1 => by cases h1), (fun t g h1 => by cases h1), fun g hg => hg.elim, fun t _ => ⟨rfl, fun s => ?_, (fun s hs => by cases hs)⟩, rfl, rfl, rfl, Nat.le_refl _, fun _ _ _ => rfl, fun _ _ => rfl, fun t _ => Nat.zero_le t, ⟨fun g hg => hg.elim, ⟨(fun q hq => by cases hq), fun g hg => hg.elim⟩⟩, fun g hg => hg.elim⟩
  rw [rawB_tags (hall s)]
  exact fun h => by cases h
theorem st_kp {N : Nat} {w1 : World} {l : SL} {a : Act} {w : World} (h : St (cxw N w1) l [] 0 a w) : Kp w1 w := by
  obtain ⟨ρ, Z, hg⟩ := h
  exact ⟨hg.os, hg.tape, hg.output, hg.big, fun g h1 _ => hg.old g h1 (fun h => h)⟩
theorem st_da {N : Nat} {w1 : World} {l : SL} (hr : l.all (fun p => rawB p.2) = true) {a : Act} {w : World} (h : St (cxw N w1) l [] 0 a w) (ρ' : Nat → Value) (Z' : Nat → Prop) (w' : World) (t : Nat) : DA ρ' Z' w' (lk .dead l t) (a.tmps.getD t undef) := by
  obtain ⟨ρ, Z, hg⟩ := h
  exact rawB_da (lk_all (p := fun x => rawB x = true) rfl (fun x hx => by rw [List.all_eq_true] at hr; exact hr x hx) t) (hg.slot t)

abbrev KP := Exit → Act → World → Prop
def ALW (P : Program) (ops : Array Oper) (K : KP) (N : Nat) (w1 : World) (todo : List Oper) (l : SL) : Prop := ∀ a w, St (cxw N w1) l [] 0 a w → wpList P ops K todo a w
def AWW (P : Program) (K : KP) (N : Nat) (w1 : World) (c : Code) (l : SL) : Prop := ∀ a w, St (cxw N w1) l [] 0 a w → c.wp P K a w
def KQ (P : Program) (K : KP) (N : Nat) (y : Code) : KP
  | .normal, a, w => y.wp P K a w
  | e, a, w => K e a w

section
variable {P : Program} {ops : Array Oper} {K : KP} {N : Nat} {w1 : World} {rest : List Oper} {l : SL}
theorem alw_nil {y : Code} (h : AWW P K N w1 y l) : ALW P ops (KQ P K N y) N w1 [] l := fun a w hs => h a w hs
theorem aww_seq {x y : Code} (h : AWW P (KQ P K N y) N w1 x l) : AWW P K N w1 (.seq x y) l := by
  intro a w hs
  refine wp_seq (Code.wp_mono ?_ (h a w hs))
  rintro e a w h1
  cases e <;> exact h1
theorem aww_region {id : Nat} {ol : List Oper} (h : ALW P ol.toArray K N w1 ol l) : AWW P K N w1 (.region id ol.toArray false) l :=
  fun a w hs => wp_region_lit (h a w hs)
theorem aww_cond_f {c : Operand} {x y : Code} {b : Bool} (hc : Ag (lk .dead l) c (.b b)) (hb : b = false) (h : AWW P K N w1 y l) : AWW P K N w1 (.cond c x y) l := by
  intro a w hs
  exact wp_cond_false (by rw [← hb]; exact eval_of hs hc) (h a w hs)
theorem aww_cond_t {c : Operand} {x y : Code} {b : Bool} (hc : Ag (lk .dead l) c (.b b)) (hb : b = true) (h : AWW P K N w1 x l) : AWW P K N w1 (.cond c x y) l := by
  intro a w hs
  exact wp_cond_true (by rw [← hb]; exact eval_of hs hc) (h a w hs)
theorem aww_skip {y : Code} (h : AWW P K N w1 y l) : AWW P (KQ P K N y) N w1 .skip l := fun a w hs => wp_skip (h a w hs)
theorem aww_ret (h : ∀ a w, St (cxw N w1) l [] 0 a w → K .ret a w) : AWW P K N w1 .ret l := fun a w hs => wp_ret (h a w hs)
variable {op : Op} {ty : TypeId} {pos : String} {af : Array Edge} {R : List (Operand × AV)} {d : Nat}
theorem alw_v {x : AV} (hx : OpX P ⟨some d, op, ty, pos, af, none⟩ R [] [] [(d, x)] []) (hR : AgL (lk .dead l) R) (hd : Nat.blt d N = true)
    (k : ALW P ops K N w1 rest ((d, x) :: l)) : ALW P ops K N w1 (⟨some d, op, ty, pos, af, none⟩ :: rest) l := by
  intro a w hs
  refine wpList_plain rfl fun K' hK => hx (cxw N w1) _ _ _ a w hR trivial trivial ⟨hd, trivial⟩ hs K' _ fun a' w' hi => hK _ _ (k a' w' ?_)
  unfold St
  rw [show lk AV.dead ((d, x) :: l) = lkf (lk .dead l) [(d, x)] from lk_cons _ _ _ _]
  obtain ⟨ρ, Z, hg⟩ := hi
  exact ⟨ρ, Z, hg.weak fun t ht => ⟨ht, by simp⟩⟩
theorem alw_on {j dj : Nat} {want b : Bool} {dst : Option Tmp} (hj : (ops[j]?).bind (·.dst) = some dj) (hd : Nat.blt dj N = true) (hb : lk .dead l dj = .b b) (hw : b = want)
    (k : ALW P ops K N w1 (⟨dst, op, ty, pos, af, none⟩ :: rest) l) : ALW P ops K N w1 (⟨dst, op, ty, pos, af, some (j, want)⟩ :: rest) l := by
  intro a w hs
  have hk := k a w hs
  have hy := yielded_eq hs hj hd hb
  subst hw
  have h1 : Region.wanted (⟨dst, op, ty, pos, af, some (j, b)⟩ : Oper) (yielded ops a.tmps) = true := by simp [Region.wanted, hy]
  have h2 : Region.wanted (⟨dst, op, ty, pos, af, none⟩ : Oper) (yielded ops a.tmps) = true := by simp [Region.wanted]
  unfold wpList at hk ⊢
  rw [if_pos h2] at hk
  rw [if_pos h1]
  exact hk

def RC (P : Program) (f : FuncId) (vs : List Value) (w : World) (R : Value → World → Prop) : Prop :=
  fnOk P f = true ∧ Calls P f vs.toArray w fun e w' => ∃ u, e = .returned u ∧ R u w'
def ArgV (S : Nat → AV) : List Operand → List Value → Prop
  | [], [] => True
  | x :: xs, v :: vs => Ag S x (.raw v) ∧ ArgV S xs vs
  | _, _ => False
theorem argv_eval {S : Nat → AV} {cx : Cx} {O : Nat → OB} {V : Nat → Prop} {a : Act} {w : World} {ρ : Nat → Value} {Z : Nat → Prop} (hg : Good cx S O V a w ρ Z) : ∀ {xs : List Operand} {vs : List Value}, ArgV S xs vs → xs.map a.eval = vs
  | [], [], _ => rfl
  | x :: xs, v :: vs, h => by
    rw [List.map_cons, argv_eval hg h.2, da_raw (hg.ag h.1)]
  | [], _ :: _, h => h.elim
  | _ :: _, [], h => h.elim
theorem alw_callG {f : FuncId} {xs : List Operand} {ats : Array TypeId} {vs : List Value} {C : Value → AV → World → Prop} (hr : l.all (fun p => rawB p.2) = true) (hv : ArgV (lk .dead l) xs vs) (hd : Nat.blt d N = true)
    (hc : ∀ w, Kp w1 w → RC P f vs w (fun u w2 => ∃ x, rawB x = true ∧ DA (fun _ => undef) (fun _ => False) w2 x u ∧ ALW P ops K N w2 rest ((d, x) :: l))) :
    ALW P ops K N w1 (⟨some d, .call { callee := .value (.func f), args := xs.toArray, argTypes := ats }, ty, pos, af, none⟩ :: rest) l := by
  intro a w hs
  obtain ⟨hok, hcall⟩ := hc w (st_kp hs)
  have hs' := hs
  obtain ⟨ρ, Z, hg⟩ := hs'
  refine wpList_plain rfl fun K' hK => ?_
  have hexec : (execOp a.eval ⟨some d, .call { callee := .value (.func f), args := xs.toArray, argTypes := ats }, ty, pos, af, none⟩).run P w = .ok (.enter f (xs.map a.eval).toArray) w := by
    rw [execOp_call_go, run_callFunc hok]
    simp
  unfold Oper.wp
  rw [hexec, Oper.upon_enter, argv_eval hg hv]
  refine hcall.mono fun e w' ⟨u, he, x, hx, hda, hk⟩ => ?_
  subst he
  have hd' := blt_lt hd
  refine hK _ _ (hk _ _ (st_raw (by simp only [List.all_cons, hx, Bool.true_and]; exact hr) (by simpa [Act.put] using hg.size) hg.defers fun t => ?_))
  by_cases e : t = d
  · subst e
    rw [show lk AV.dead ((t, x) :: l) t = x by simp [lk, beq_self]]
    have : (a.put (some t) u).tmps.getD t undef = u := by
      have h3 : a.tmps.size = N := hg.size
      simp [Act.put, Array.getD, Array.size_setIfInBounds, h3, hd']
    rw [this]
    exact hda
  · rw [show lk AV.dead ((d, x) :: l) t = lk .dead l t by simp [lk, beq_ne (Ne.symm e)]]
    have : (a.put (some d) u).tmps.getD t undef = a.tmps.getD t undef := by
      simp [Act.put, Array.getD_eq_getD_getElem?, Ne.symm e]
    rw [this]
    exact st_da hr hs _ _ _ t
end
end Go.Proofs.Ytokhfcfnhgianaa
