/-
  Contracts of functions; how a walk gives one; how a call uses one.
-/
import Derived.Test.YtllgddednlfhfaaDoorEng9
namespace Go.Proofs.YtllgddednlfhfaaDoor
open Go.RowKit
set_option linter.unusedVariables false
set_option linter.unusedSimpArgs false

def mkRet : List Value → Value
  | [u] => u
  | us => .tuple us.toArray
def mkRes : List AR → AV
  | [r] => .r r
  | rs => .tup rs

def obAt (obs : List OB) (i : Nat) : OB := obs.getD i .gone

/-- What holds as a call begins: its arguments, the objects that it may write. -/
structure Entry (w : World) (ρ : Nat → Value) (Z : Nat → Prop) (args : List AR) (obs : List OB) (vs : List Value) : Prop where
  args : DRL ρ Z w args vs
  objs : ∀ i, DO ρ Z w i (obAt obs i)
  sep : ∀ i j g, (obAt obs i).live = true → (obAt obs j).live = true → blk (ρ i) = some g → blk (ρ j) = some g → i = j
  nz : ∀ i g, (obAt obs i).live = true → blk (ρ i) = some g → ¬ Z g
  zlt : ∀ g, Z g → g < w.heap.size
  gl : Gl Z w

def Wr (obs : List OB) (ρ : Nat → Value) (g : Nat) : Prop := ∃ i, (obAt obs i).live = true ∧ blk (ρ i) = some g

/-- What holds as it ends: 'all': the objects that it was handed, and then the new ones. -/
structure Leave (w : World) (ρ : Nat → Value) (Z : Nat → Prop) (obs : List OB) (w' : World) (ρ' : Nat → Value) (Z' : Nat → Prop) (rs : List AR) (all : List OB) (us : List Value) : Prop where
  res : DRL ρ' Z' w' rs us
  objs : ∀ i, DO ρ' Z' w' i (obAt all i)
  same : ∀ i, i < obs.length → ρ' i = ρ i
  sep : ∀ i j g, (obAt all i).live = true → (obAt all j).live = true → blk (ρ' i) = some g → blk (ρ' j) = some g → i = j
  out : ∀ i g, (obAt all i).live = true → blk (ρ' i) = some g → ¬ Z' g ∧ (w.heap.size ≤ g ∨ Wr obs ρ g)
  zmono : ∀ g, Z g → Z' g
  znew : ∀ g, Z' g → Z g ∨ w.heap.size ≤ g ∨ Wr obs ρ g
  zlt : ∀ g, Z' g → g < w'.heap.size
  tags : (rs.all fun r => r.tags.all (Nat.blt · all.length)) = true ∧ (all.all fun o => o.okTags all.length) = true
  os : w'.os = w.os
  tape : w'.tape = w.tape
  output : w'.output = w.output
  size : w.heap.size ≤ w'.heap.size
  old : ∀ g, g < w.heap.size → ¬ Wr obs ρ g → w'.heap[g]? = w.heap[g]?

/-- The contract: from such arguments the call returns, with results and objects of which Post holds. -/
def fnOk (P : Program) (f : FuncId) : Bool :=
  match P.funcs[f]? with
  | some fn => fn.body.isSome && !(fn.name == "runtime.NumGoroutine")
  | none => false
structure Con (P : Program) (f : FuncId) (args : List AR) (obs : List OB) (Post : List AR → List OB → Prop) : Prop where
  ok : fnOk P f = true
  run : ∀ (w : World) (ρ : Nat → Value) (Z : Nat → Prop) (vs : List Value), Entry w ρ Z args obs vs →
    Calls P f vs.toArray w fun e w' => ∃ rs all us ρ' Z', Post rs all ∧ obs.length ≤ all.length ∧ e = .returned (mkRet us) ∧ Leave w ρ Z obs w' ρ' Z' rs all us

theorem Con.mono {P : Program} {f : FuncId} {args : List AR} {obs : List OB} {Post Post' : List AR → List OB → Prop} (h : Con P f args obs Post) (hp : ∀ rs all, Post rs all → Post' rs all) : Con P f args obs Post' :=
  ⟨h.ok, fun w ρ Z vs he => (h.run w ρ Z vs he).mono fun e w' ⟨rs, all, us, ρ', Z', h1, h2⟩ => ⟨rs, all, us, ρ', Z', hp _ _ h1, h2⟩⟩

/-! ### from a walk to a contract -/
def argL (k : Nat) : List AR → SL
  | [] => []
  | a :: as => (k, .r a) :: argL (k + 1) as
def obL (k : Nat) : List OB → OL
  | [] => []
  | a :: as => (k, a) :: obL (k + 1) as

theorem lk_argL : ∀ (as : List AR) (k t : Nat), lk .dead (argL k as) t = if k ≤ t then ((as[t - k]?).map AV.r).getD .dead else .dead
  | [], k, t => by simp [argL, lk]
  | a :: as, k, t => by
    simp only [argL, lk]
    by_cases e : k = t
    · subst e; simp [beq_self]
    · rw [beq_ne e, cond_false, lk_argL as (k + 1) t]
      by_cases h : k ≤ t
      · have h2 : k + 1 ≤ t := by omega
        rw [if_pos h, if_pos h2]
        have : t - k = (t - (k + 1)) + 1 := by omega
        rw [this, List.getElem?_cons_succ]
      · rw [if_neg h, if_neg (by omega)]
theorem lk_obL : ∀ (as : List OB) (k t : Nat), lk .gone (obL k as) t = if k ≤ t then (as[t - k]?).getD .gone else .gone
  | [], k, t => by simp [obL, lk]
  | a :: as, k, t => by
    simp only [obL, lk]
    by_cases e : k = t
    · subst e; simp [beq_self]
    · rw [beq_ne e, cond_false, lk_obL as (k + 1) t]
      by_cases h : k ≤ t
      · have h2 : k + 1 ≤ t := by omega
        rw [if_pos h, if_pos h2]
        have : t - k = (t - (k + 1)) + 1 := by omega
        rw [this, List.getElem?_cons_succ]
      · rw [if_neg h, if_neg (by omega)]
theorem lk_obL0 (as : List OB) (t : Nat) : lk .gone (obL 0 as) t = obAt as t := by
  rw [lk_obL]; simp [obAt]

theorem drl_len {ρ : Nat → Value} {Z : Nat → Prop} {w : World} : ∀ {xs : List AR} {us : List Value}, DRL ρ Z w xs us → us.length = xs.length
  | [], [], _ => rfl
  | _ :: _, _ :: _, h => by simp [drl_len h.2]
  | [], _ :: _, h => h.elim
  | _ :: _, [], h => h.elim

/-- What a result variable holds. -/
def RetV (P : Program) (l : SL) (m : OL) : ResultVar → AR → Prop
  | .tmp t, r => lk .dead l t = .r r
  | .cell a t, r => ∃ u e cells, lk .dead l a = .ref u 0 ∧ lk .gone m u = .box e cells ∧ ((strTy P t = some cells.length ∧ r = .agg cells) ∨ (oneTy P t = true ∧ ∃ c, cells = [c] ∧ r = .one c))
def RetS (P : Program) (l : SL) (m : OL) (f : Nat → Nat) : List ResultVar → List AR → Prop
  | [], [] => True
  | v :: vs, r :: rs => RetV P l m v (r.sub f) ∧ RetS P l m f vs rs
  | _, _ => False
def resTags (rs : List AR) (all : List OB) : Bool := (rs.all fun r => r.tags.all (Nat.blt · all.length)) && (all.all fun o => o.okTags all.length)

/-- The post of a walk: the results are there. 'p': the tags of the new objects. -/
def RetG (P : Program) (vars : List ResultVar) (m0 : Nat) (Post : List AR → List OB → Prop) : APost := fun e l m n =>
  (match e with | .normal | .ret => True | _ => False) ∧ ∃ rs all p, Post rs all ∧ m0 ≤ all.length ∧ nodupB p = true ∧ p.length = all.length ∧ pinB m0 p = true ∧ resTags rs all = true ∧ RetS P l m (perm p) vars rs ∧ LeO m (perm p) (obL 0 all)

section
variable {P : Program}

def rvVal (P : Program) (w : World) (tmps : Array Value) (v : ResultVar) (u : Value) : Prop :=
  match v with
  | .tmp t => tmps.getD t undef = u
  | .cell a t => ∃ g, tmps.getD a undef = .pointer (some ⟨g, 0, none⟩) ∧ (loadVar t ⟨g, 0, none⟩).run P w = .ok u w

def rvSem (tmps : Array Value) : ResultVar → Sem Value
  | .tmp t => pure (tmps.getD t undef)
  | .cell a t => do loadVar t (← asAddr (tmps.getD a undef))

theorem results_eq (fn : Func) (tmps : Array Value) : results fn tmps = (do let vs ← fn.results.mapM (rvSem tmps); pure (if h : vs.size = 1 then vs[0] else .tuple vs)) := by
  unfold results
  congr 2

theorem run_rv {w : World} {tmps : Array Value} {v : ResultVar} {u : Value} (h : rvVal P w tmps v u) : (rvSem tmps v).run P w = .ok u w := by
  cases v with
  | tmp t => simp only [rvVal] at h; simp only [rvSem, Sem.run_pure, h]
  | cell a t =>
    obtain ⟨g, h1, h2⟩ := h
    simp only [rvSem, Sem.run_bind, h1, asAddr, Sem.run_pure, Result.andThen_ok, h2]

def rvVals (P : Program) (w : World) (tmps : Array Value) : List ResultVar → List Value → Prop
  | [], [] => True
  | v :: vs, u :: us => rvVal P w tmps v u ∧ rvVals P w tmps vs us
  | _, _ => False

theorem results_run {w : World} {tmps : Array Value} {fn : Func} {vars : List ResultVar} {us : List Value} (hf : fn.results = vars.toArray) (h3 : vars.length ≤ 4) (h : rvVals P w tmps vars us) :
    (results fn tmps).run P w = .ok (mkRet us) w := by
  match vars, us, h with
  | [], [], _ => rw [results_eq]; simp [hf, mkRet]
  | [v], [u], h =>
    have h1 := run_rv h.1
    rw [results_eq]
    simp [hf, mkRet, h1]
  | [v, v2], [u, u2], h =>
    have h1 := run_rv h.1
    have h2 := run_rv h.2.1
    rw [results_eq]
    simp [hf, mkRet, h1, h2]
  | [v, v2, v3], [u, u2, u3], h =>
    have h1 := run_rv h.1
    have h2 := run_rv h.2.1
    have h3' := run_rv h.2.2.1
    rw [results_eq]
    simp [hf, mkRet, h1, h2, h3']
  | [v, v2, v3, v4], [u, u2, u3, u4], h =>
    have h1 := run_rv h.1
    have h2 := run_rv h.2.1
    have h3' := run_rv h.2.2.1
    have h4 := run_rv h.2.2.2.1
    rw [results_eq]
    simp [hf, mkRet, h1, h2, h3', h4]
  | _ :: _ :: _ :: _ :: _ :: _, _, _ => simp at h3

theorem retS_vals {l : SL} {m : OL} {f : Nat → Nat} {cx : Cx} {V : Nat → Prop} {a : Act} {w : World} {ρ : Nat → Value} {Z : Nat → Prop} (hg : Good cx (lk .dead l) (lk .gone m) V a w ρ Z) :
    ∀ {vars : List ResultVar} {rs : List AR}, RetS P l m f vars rs → ∃ us, rvVals P w a.tmps vars us ∧ DRL (fun t => ρ (f t)) Z w rs us
  | [], [], _ => ⟨[], trivial, trivial⟩
  | .tmp t :: vars, r :: rs, h => by
    obtain ⟨us, h1, h2⟩ := retS_vals hg h.2
    have h3 := hg.slot t
    rw [show lk .dead l t = .r (r.sub f) from h.1] at h3
    exact ⟨_ :: us, ⟨rfl, h1⟩, DR.sub h3, h2⟩
  | .cell b t :: vars, r :: rs, h => by
    obtain ⟨us, h1, h2⟩ := retS_vals hg h.2
    obtain ⟨u, e, cells, h3, h4, h5⟩ := h.1
    have h6 := hg.slot b
    rw [h3] at h6
    obtain ⟨g, o, h7, h8⟩ := h6
    have h9 := hg.obj u
    rw [h4] at h9
    obtain ⟨g', vs, h10, h11, h12⟩ := h9
    rw [h10] at h7
    cases h7
    rcases h5 with ⟨h5, h13⟩ | ⟨h5, c, rfl, h13⟩
    · have hst : TyStr P t cells.length := ⟨h5⟩
      obtain ⟨a1, a2⟩ := run_isAgg_str (P := P) (w := w) hst
      have hl : (loadCells ⟨g, 0, none⟩ cells.length).run P w = .ok vs.toArray w := by
        rw [← h12.len]
        exact run_loadCells_list w ⟨g, 0, none⟩ vs fun k u hu => by
          rw [addr_add, World.cell?, h11]; simpa using hu
      refine ⟨.agg vs.toArray :: us, ⟨⟨g, by simpa using h8, by simp [loadVar, a1, a2, hl]⟩, h1⟩, ?_, h2⟩
      refine DR.sub (x := r) (f := f) ?_
      rw [h13]
      exact ⟨vs, rfl, h12⟩
    · have hot : TyOne P t := ⟨h5⟩
      match vs, h12 with
      | [v], h12 =>
        refine ⟨v :: us, ⟨⟨g, by simpa using h8, ?_⟩, h1⟩, ?_, h2⟩
        · simp [loadVar, run_isAgg_one hot, World.cell?, h11]
        · refine DR.sub (x := r) (f := f) ?_
          rw [h13]
          exact h12.1
  | [], _ :: _, h => h.elim
  | _ :: _, [], h => h.elim

theorem leo_obL {m : OL} {f : Nat → Nat} {all : List OB} (h : LeO m f (obL 0 all)) (i : Nat) : obAt all i = .gone ∨ lk .gone m (f i) = (obAt all i).sub f := by
  have := leo_at h i
  rwa [lk_obL0] at this

/-- A walk of the body gives the contract. -/
theorem con_of_aw {f : FuncId} {fn : Func} {c : Code} {N : Nat} {vars : List ResultVar} {args : List AR} {obs : List OB} {Post : List AR → List OB → Prop} (l0 : SL) (m0 : OL) (n0 : Nat)
    (hf : P.funcs[f]? = some fn) (hok : fnOk P f = true) (hb : fn.body = some c) (hN : fn.ntmps = N) (hv : fn.results = vars.toArray) (hv4 : vars.length ≤ 4) (hargs : Nat.ble args.length N = true) (hl0 : argL 0 args = l0) (hm0 : obL 0 obs = m0) (hn0 : obs.length = n0)
    (htags : ((argL 0 args).all (fun p => p.2.okTags obs.length) && obs.all (fun o => o.okTags obs.length)) = true)
    (H : ∀ B M w0 ρ0 Z0, AW P ⟨N, B, M, w0, n0, ρ0, Z0⟩ c (RetG P vars n0 Post) l0 m0 n0) : Con P f args obs Post := by
  subst hl0 hm0 hn0
  have hargs := Nat.le_of_ble_eq_true hargs
  refine ⟨hok, fun w ρ Z vs he => ?_⟩
  have hvl : vs.length = args.length := drl_len he.args
  simp only [Bool.and_eq_true, List.all_eq_true] at htags
  refine calls_of_wp hf hb ?_
  refine Code.wp_mono ?_ (H w.heap.size (Wr obs ρ) w ρ Z _ w ⟨ρ, Z, ?_⟩)
  · rintro e a w' ⟨l, m, n, ⟨hex, rs, all, p, hpost, hlen, hnd, hpl, hpin, htg, hret, hobs⟩, ρ1, Z1, hg⟩
    have main : a.defers = [] ∧ ∃ v, (results fn a.tmps).run P w' = .ok v w' ∧ ∃ rs all us ρ' Z', Post rs all ∧ obs.length ≤ all.length ∧ Ending.returned v = .returned (mkRet us) ∧ Leave w ρ Z obs w' ρ' Z' rs all us := by
      obtain ⟨us, h1, h2⟩ := retS_vals hg hret
      have hr := results_run hv hv4 h1
      simp only [resTags, Bool.and_eq_true] at htg
      simp only [pinB, Bool.and_eq_true, List.all_eq_true] at hpin
      have hlive : ∀ i, (obAt all i).live = true → i < all.length ∧ (lk .gone m (perm p i)).live = true := fun i hi => by
        refine ⟨?_, ?_⟩
        · rcases Nat.lt_or_ge i all.length with h | h
          · exact h
          · simp [obAt, List.getElem?_eq_none h, OB.live] at hi
        · rcases leo_obL hobs i with h | h
          · rw [h] at hi; cases hi
          · rw [h]; cases hob : obAt all i <;> rw [hob] at hi <;> first | rfl | cases hi
      refine ⟨hg.defers, _, hr, rs, all, us, fun t => ρ1 (perm p t), Z1, hpost, hlen, rfl, h2, fun i => ?_, fun i hi => ?_, fun i j g a1 a2 a3 a4 => ?_, fun i g a1 a2 => ?_, ?_, ?_, hg.zlt, htg, hg.os, hg.tape, hg.output, hg.big, hg.old⟩
      · rcases leo_obL hobs i with h | h
        · rw [h]; trivial
        · have := hg.obj (perm p i)
          rw [h] at this
          exact DO.sub this
      · show ρ1 (perm p i) = ρ i
        rw [Nat.eq_of_beq_eq_true (hpin.2 i (List.mem_range.2 hi))]
        exact hg.pin i hi
      · have b1 := hlive i a1
        have b2 := hlive j a2
        exact nodupB_inj hnd i j (by rw [hpl]; exact b1.1) (by rw [hpl]; exact b2.1) (hg.sep _ _ g b1.2 b2.2 a3 a4)
      · exact hg.out (perm p i) g (hlive i a1).2 a2
      · exact hg.zin.1
      · exact hg.zout
    cases e with
    | normal => exact main
    | ret => exact main
    | _ => exact hex.elim
  · refine ⟨?_, rfl, fun t => ?_, fun t => ?_, fun t t' g h1 h2 h3 h4 => ?_, fun t g h1 h2 => ?_, he.zlt, fun t ht => ?_, rfl, rfl, rfl, Nat.le_refl _, fun _ _ _ => rfl, fun _ _ => rfl, fun t ht => ht, ⟨fun _ h => h, he.gl, fun g hg => ⟨he.zlt g hg, fun ⟨i, h1, h2⟩ => he.nz i g h1 h2 hg⟩⟩, fun _ h => .inl h⟩
    · simp [hN, hvl]; omega
    · rw [lk_argL]
      simp only [Nat.zero_le, if_true, Nat.sub_zero]
      by_cases h : t < args.length
      · rw [List.getElem?_eq_getElem h]
        obtain ⟨v, h1, h2⟩ := drl_at he.args (List.getElem?_eq_getElem h)
        have hlt : t < vs.length := by omega
        have e : (vs.toArray ++ Array.replicate (fn.ntmps - vs.toArray.size) undef).getD t undef = v := by
          rw [Array.getD_eq_getD_getElem?, Array.getElem?_append_left (by simpa using hlt)]
          simp [h1]
        rw [e]
        exact h2
      · rw [List.getElem?_eq_none (by omega)]
        trivial
    · rw [lk_obL0]; exact he.objs t
    · rw [lk_obL0] at h1 h2; exact he.sep t t' g h1 h2 h3 h4
    · rw [lk_obL0] at h1; exact ⟨he.nz t g h1 h2, .inr ⟨t, h1, h2⟩⟩
    · refine ⟨?_, fun s hs => ?_, fun s hs => ?_⟩
      · rw [lk_obL0, obAt, List.getD_eq_getElem?_getD, List.getElem?_eq_none ht]; rfl
      · have : ∀ s, ∀ t ∈ (lk AV.dead (argL 0 args) s).tags, t < obs.length := lk_all (p := fun x : AV => ∀ t ∈ x.tags, t < obs.length) (by simp [AV.tags]) fun x hx t ht => by
          have := htags.1 x hx
          simp only [AV.okTags, List.all_eq_true] at this
          exact blt_lt (this t ht)
        exact absurd (this s t hs) (by omega)
      · rw [lk_obL0] at hs
        have h1 : obAt obs s ∈ obs ∨ obAt obs s = .gone := by
          rcases Nat.lt_or_ge s obs.length with h | h
          · left; rw [obAt, List.getD_eq_getElem?_getD, List.getElem?_eq_getElem h]; exact List.getElem_mem h
          · right; rw [obAt, List.getD_eq_getElem?_getD, List.getElem?_eq_none h]; rfl
        rcases h1 with h1 | h1
        · have := htags.2 _ h1
          simp only [OB.okTags, List.all_eq_true] at this
          have := blt_lt (this t hs)
          omega
        · rw [h1] at hs; cases hs

/-! ### from a contract to a call -/
/-- The caller's name of the callee's tag i: q: of what it hands over; the next free ones for what is new. -/
def cpi (q : List Nat) (n i : Nat) : Nat := q.getD i (n + i - q.length)
def obLM (f : Nat → Nat) (k : Nat) : List OB → OL
  | [] => []
  | o :: os => (f k, o.sub f) :: obLM f (k + 1) os

theorem D1.unsub {ρ ρ' : Nat → Value} {Z : Nat → Prop} {w : World} {f : Nat → Nat} {x : A1} {v : Value} (hr : ∀ t, x.tag = some t → ρ' (f t) = ρ t) (h : D1 ρ Z w x v) : D1 ρ' Z w (x.sub f) v := by
  cases x with
  | c x => exact h
  | own t => exact ⟨by rw [hr t rfl]; exact h.1, h.2⟩
  | ref t o => obtain ⟨g, o', h1, h2⟩ := h; exact ⟨g, o', by rw [hr t rfl]; exact h1, h2⟩
  | el t wd i k => obtain ⟨g, o', h1, h2⟩ := h; exact ⟨g, o', by rw [hr t rfl]; exact h1, h2⟩
  | imm xs => exact h
  | fn g r caps =>
    cases r with
    | none => exact h
    | some p => obtain ⟨fs, cs, h1, ⟨g, o, h2, h3⟩, h4⟩ := h; exact ⟨fs, cs, h1, ⟨g, o, by rw [hr p.1 rfl]; exact h2, h3⟩, h4⟩
  | pr p => exact h
theorem D1L.unsub {ρ ρ' : Nat → Value} {Z : Nat → Prop} {w : World} {f : Nat → Nat} : ∀ {xs : List A1} {us : List Value}, (∀ x ∈ xs, ∀ t, x.tag = some t → ρ' (f t) = ρ t) → D1L ρ Z w xs us → D1L ρ' Z w (xs.map (·.sub f)) us
  | [], [], _, _ => trivial
  | x :: xs, u :: us, hr, h => ⟨D1.unsub (hr x (.head _)) h.1, D1L.unsub (fun y hy => hr y (.tail _ hy)) h.2⟩
  | [], _ :: _, _, h => h.elim
  | _ :: _, [], _, h => h.elim
theorem DR.unsub {ρ ρ' : Nat → Value} {Z : Nat → Prop} {w : World} {f : Nat → Nat} {x : AR} {v : Value} (hr : ∀ t ∈ x.tags, ρ' (f t) = ρ t) (h : DR ρ Z w x v) : DR ρ' Z w (x.sub f) v := by
  cases x with
  | one x => exact D1.unsub (x := x) (fun t ht => hr t (by simp [AR.tags, ht])) h
  | agg xs =>
    obtain ⟨us, h1, h2⟩ := h
    exact ⟨us, h1, D1L.unsub (fun x hx t ht => hr t (by simp only [AR.tags, List.mem_flatMap]; exact ⟨x, hx, by simp [ht]⟩)) h2⟩
theorem DRL.unsub {ρ ρ' : Nat → Value} {Z : Nat → Prop} {w : World} {f : Nat → Nat} : ∀ {xs : List AR} {us : List Value}, (∀ x ∈ xs, ∀ t ∈ x.tags, ρ' (f t) = ρ t) → DRL ρ Z w xs us → DRL ρ' Z w (xs.map (·.sub f)) us
  | [], [], _, _ => trivial
  | x :: xs, u :: us, hr, h => ⟨DR.unsub (hr x (.head _)) h.1, DRL.unsub (fun y hy => hr y (.tail _ hy)) h.2⟩
  | [], _ :: _, _, h => h.elim
  | _ :: _, [], _, h => h.elim
theorem DO.unsub {ρ ρ' : Nat → Value} {Z : Nat → Prop} {w : World} {f : Nat → Nat} {t : Nat} {ob : OB} (ht : ρ' (f t) = ρ t) (hr : ∀ s ∈ ob.tags, ρ' (f s) = ρ s) (h : DO ρ Z w t ob) : DO ρ' Z w (f t) (ob.sub f) := by
  cases ob with
  | gone => trivial
  | row wd e rows => simpa only [OB.sub, DO, ht] using h
  | froz wd rows => simpa only [OB.sub, DO, ht] using h
  | raw o => simpa only [OB.sub, DO, ht] using h
  | box e cells =>
    obtain ⟨g, us, h1, h2, h3⟩ := h
    exact ⟨g, us, by rw [ht]; exact h1, h2, D1L.unsub (fun x hx t' ht' => hr t' (by simp only [OB.tags, List.mem_flatMap]; exact ⟨x, hx, by simp [ht']⟩)) h3⟩

theorem OB.live_sub (f : Nat → Nat) (o : OB) : (o.sub f).live = o.live := by cases o <;> rfl
theorem A1.tags_sub (f : Nat → Nat) (x : A1) : (x.sub f).tag.toList = x.tag.toList.map f := by
  cases x with
  | fn g r caps => cases r <;> rfl
  | _ => rfl
theorem AR.tags_sub (f : Nat → Nat) (x : AR) : (x.sub f).tags = x.tags.map f := by
  cases x with
  | one x => simp [AR.sub, AR.tags, A1.tags_sub]
  | agg xs =>
    simp only [AR.sub, AR.tags]
    induction xs with
    | nil => rfl
    | cons x xs ih => simp [A1.tags_sub] at ih ⊢; rw [ih]
theorem OB.tags_sub (f : Nat → Nat) (o : OB) : (o.sub f).tags = o.tags.map f := by
  cases o with
  | box e cells => exact AR.tags_sub f (.agg cells)
  | _ => rfl

theorem lkf_obLM (O : Nat → OB) (f : Nat → Nat) : ∀ (all : List OB) (k t : Nat), (∀ i j, i < k + all.length → j < k + all.length → k ≤ i → k ≤ j → f i = f j → i = j) →
    (∃ i, k ≤ i ∧ i < k + all.length ∧ f i = t ∧ lkf O (obLM f k all) t = (all.getD (i - k) .gone).sub f) ∨ ((∀ i, k ≤ i → i < k + all.length → f i ≠ t) ∧ lkf O (obLM f k all) t = O t)
  | [], k, t, _ => .inr ⟨fun i h1 h2 => by simp at h2; omega, rfl⟩
  | o :: os, k, t, hinj => by
    simp only [obLM, lkf]
    by_cases e : f k = t
    · subst e
      left
      refine ⟨k, Nat.le_refl _, by simp, rfl, ?_⟩
      simp [beq_self]
    · rw [beq_ne e, cond_false]
      rcases lkf_obLM O f os (k + 1) t (fun i j h1 h2 h3 h4 h5 => hinj i j (by simp; omega) (by simp; omega) (by omega) (by omega) h5) with ⟨i, h1, h2, h3, h4⟩ | ⟨h1, h2⟩
      · left
        refine ⟨i, by omega, by simp; omega, h3, ?_⟩
        rw [h4]
        have : i - k = (i - (k + 1)) + 1 := by omega
        rw [this, List.getD_cons_succ]
      · right
        refine ⟨fun i h3 h4 h5 => ?_, h2⟩
        by_cases hik : i = k
        · subst hik; exact e h5
        · exact h1 i (by omega) (by simp at h4; omega) h5
end
end Go.Proofs.YtllgddednlfhfaaDoor
