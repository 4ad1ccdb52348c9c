/-
  Calls whose results are known, in the text's order and in drawn regions.
-/
import Derived.Test.YtllgddednlfhfaaDoorEng12
namespace Go.Proofs.YtllgddednlfhfaaDoor
open Go.RowKit
set_option linter.unusedVariables false
set_option linter.unusedSimpArgs false

/-- The objects that an aggregate's cells lead to. -/
def argOA (O : Nat → OB) : List A1 → OL
  | [] => []
  | .own t :: xs => (t, O t) :: argOA O xs
  | _ :: xs => argOA O xs
theorem OgL.split {O : Nat → OB} : ∀ {A B : OL}, OgL O (A ++ B) → OgL O A ∧ OgL O B
  | [], B, h => ⟨trivial, h⟩
  | (t, v) :: A, B, h => ⟨⟨h.1, (OgL.split h.2).1⟩, (OgL.split h.2).2⟩
theorem OgL.join {O : Nat → OB} : ∀ {A B : OL}, OgL O A → OgL O B → OgL O (A ++ B)
  | [], B, _, h => h
  | (t, v) :: A, B, h, h2 => ⟨h.1, OgL.join h.2 h2⟩
theorem argOA_ok {O : Nat → OB} : ∀ (xs : List A1), OgL O (argOA O xs)
  | [] => trivial
  | x :: xs => by
    cases x <;> first | exact ⟨rfl, argOA_ok xs⟩ | exact argOA_ok xs
theorem argOA_cons {O : Nat → OB} {x : A1} {xs : List A1} {O' : Nat → OB} (h : OgL O' (argOA O (x :: xs))) : (∀ t, x = .own t → O' t = O t) ∧ OgL O' (argOA O xs) := by
  cases x with
  | own t => exact ⟨fun t' e => by cases e; exact h.1, h.2⟩
  | _ => exact ⟨fun t' e => (by cases e), h⟩
theorem RdL.turn {O O' : Nat → OB} {xs ys : List A1} (h : RdL O true xs ys) : OgL O' (argOA O xs) → RdL O' true xs ys := by
  induction h with
  | nil => intro _; exact .nil
  | cons h1 _ ih =>
    intro ho
    obtain ⟨h2, h3⟩ := argOA_cons ho
    refine .cons ?_ (ih h3)
    cases h1 with
    | same h => exact .same h
    | froz h => exact .froz (by rw [h2 _ rfl]; exact h)
    | row _ h => exact .row rfl (by rw [h2 _ rfl]; exact h)
    | rnil => exact .rnil
theorem argOA_none {O : Nat → OB} : ∀ {xs : List A1}, AR.tags (.agg xs) = [] → argOA O xs = []
  | [], _ => rfl
  | x :: xs, h => by
    simp only [AR.tags, List.flatMap_cons, List.append_eq_nil_iff] at h
    cases x with
    | own t => exact absurd h.1 (by simp [A1.tag])
    | _ => exact argOA_none (xs := xs) h.2
/-- Arguments, with what is read for them. -/
inductive ArgsD (S : Nat → AV) (O : Nat → OB) : List Operand → List AR → List (Operand × AV) → OL → Prop where
  | nil : ArgsD S O [] [] [] []
  | one {x : Operand} {r : AR} {xs : List Operand} {rs : List AR} {R : List (Operand × AV)} {RO : OL} : Ag S x (.r r) → r.tags = [] → ArgsD S O xs rs R RO → ArgsD S O (x :: xs) (r :: rs) ((x, .r r) :: R) RO
  | froz {x : Operand} {t wd : Nat} {rows : List (List CV)} {xs : List Operand} {rs : List AR} {R : List (Operand × AV)} {RO : OL} : Ag S x (.own t) → O t = .froz wd rows → ArgsD S O xs rs R RO →
      ArgsD S O (x :: xs) (.one (.c (.sl wd rows)) :: rs) ((x, .own t) :: R) ((t, .froz wd rows) :: RO)
  | rnil {x : Operand} {wd : Nat} {xs : List Operand} {rs : List AR} {R : List (Operand × AV)} {RO : OL} : Ag S x (.raw (.slice none 0 0)) → ArgsD S O xs rs R RO → ArgsD S O (x :: xs) (.one (.c (.sl wd [])) :: rs) ((x, .raw (.slice none 0 0)) :: R) RO
  | row {x : Operand} {t wd : Nat} {e : TypeId} {rows : List (List CV)} {xs : List Operand} {rs : List AR} {R : List (Operand × AV)} {RO : OL} : Ag S x (.own t) → O t = .row wd e rows → ArgsD S O xs rs R RO →
      ArgsD S O (x :: xs) (.one (.c (.sl wd rows)) :: rs) ((x, .own t) :: R) ((t, .row wd e rows) :: RO)
  | agg {x : Operand} {us vs : List A1} {xs : List Operand} {rs : List AR} {R : List (Operand × AV)} {RO : OL} : Ag S x (.agg us) → RdL O true us vs → ArgsD S O xs rs R RO →
      ArgsD S O (x :: xs) (.agg vs :: rs) ((x, .agg us) :: R) (argOA O us ++ RO)

theorem ArgsD.ok {S : Nat → AV} {O : Nat → OB} {xs : List Operand} {rs : List AR} {R : List (Operand × AV)} {RO : OL} (h : ArgsD S O xs rs R RO) :
    AgL S R ∧ OgL O RO ∧ ∀ (S' : Nat → AV) (O' : Nat → OB) (f : Nat → Nat), AgL S' R → OgL O' RO → Args S' O' f true xs rs := by
  induction h with
  | nil => exact ⟨trivial, trivial, fun _ _ _ _ _ => .nil⟩
  | one h1 h2 _ ih => exact ⟨⟨h1, ih.1⟩, ih.2.1, fun S' O' f hR hO => .one hR.1 h2 (ih.2.2 S' O' f hR.2 hO)⟩
  | froz h1 h2 _ ih => exact ⟨⟨h1, ih.1⟩, ⟨h2, ih.2.1⟩, fun S' O' f hR hO => .froz hR.1 hO.1 (ih.2.2 S' O' f hR.2 hO.2)⟩
  | rnil h1 _ ih => exact ⟨⟨h1, ih.1⟩, ih.2.1, fun S' O' f hR hO => .rnil hR.1 (ih.2.2 S' O' f hR.2 hO)⟩
  | row h1 h2 _ ih => exact ⟨⟨h1, ih.1⟩, ⟨h2, ih.2.1⟩, fun S' O' f hR hO => .row rfl hR.1 hO.1 (ih.2.2 S' O' f hR.2 hO.2)⟩
  | agg h1 h2 _ ih => exact ⟨⟨h1, ih.1⟩, OgL.join (argOA_ok _) ih.2.1, fun S' O' f hR hO => .agg hR.1 (h2.turn (OgL.split hO).1) (ih.2.2 S' O' f hR.2 (OgL.split hO).2)⟩

/-- Arguments as they stand. -/
inductive ArgsX (S : Nat → AV) (O : Nat → OB) : List Operand → List AR → Prop where
  | nil : ArgsX S O [] []
  | one {x : Operand} {r : AR} {xs : List Operand} {rs : List AR} : Ag S x (.r r) → r.tags = [] → ArgsX S O xs rs → ArgsX S O (x :: xs) (r :: rs)
  | froz {x : Operand} {t wd : Nat} {rows : List (List CV)} {xs : List Operand} {rs : List AR} : Ag S x (.own t) → O t = .froz wd rows → ArgsX S O xs rs → ArgsX S O (x :: xs) (.one (.c (.sl wd rows)) :: rs)
  | rnil {x : Operand} {wd : Nat} {xs : List Operand} {rs : List AR} : Ag S x (.raw (.slice none 0 0)) → ArgsX S O xs rs → ArgsX S O (x :: xs) (.one (.c (.sl wd [])) :: rs)
  | row {x : Operand} {t wd : Nat} {e : TypeId} {rows : List (List CV)} {xs : List Operand} {rs : List AR} : Ag S x (.own t) → O t = .row wd e rows → ArgsX S O xs rs → ArgsX S O (x :: xs) (.one (.c (.sl wd rows)) :: rs)
  | agg {x : Operand} {us vs : List A1} {xs : List Operand} {rs : List AR} : Ag S x (.agg us) → RdL O true us vs → ArgsX S O xs rs → ArgsX S O (x :: xs) (.agg vs :: rs)
def argR (S : Nat → AV) (xs : List Operand) : List (Operand × AV) := xs.map fun x => (x, vl S x)
def argO1 (O : Nat → OB) : AV → OL
  | .r (.one (.own t)) => [(t, O t)]
  | .r (.agg xs) => argOA O xs
  | _ => []
def argO (S : Nat → AV) (O : Nat → OB) (xs : List Operand) : OL := xs.flatMap fun x => argO1 O (vl S x)
theorem argO1_c {O : Nat → OB} {r : AR} (h : r.tags = []) : argO1 O (.r r) = [] := by
  cases r with
  | one x => cases x <;> first | rfl | cases h
  | agg xs => exact argOA_none h
theorem ArgsX.d {S : Nat → AV} {O : Nat → OB} {xs : List Operand} {rs : List AR} (h : ArgsX S O xs rs) : ArgsD S O xs rs (argR S xs) (argO S O xs) := by
  induction h with
  | nil => exact .nil
  | one h1 h2 _ ih =>
    have e : vl S _ = _ := h1
    simp only [argR, argO, List.map_cons, List.flatMap_cons, e, argO1_c h2, List.nil_append]
    exact .one h1 h2 ih
  | froz h1 h2 _ ih =>
    have e : vl S _ = _ := h1
    simp only [argR, argO, List.map_cons, List.flatMap_cons, e, argO1, h2, List.cons_append, List.nil_append]
    exact .froz h1 h2 ih
  | rnil h1 _ ih =>
    have e : vl S _ = _ := h1
    simp only [argR, argO, List.map_cons, List.flatMap_cons, e, argO1, List.nil_append]
    exact .rnil h1 ih
  | row h1 h2 _ ih =>
    have e : vl S _ = _ := h1
    simp only [argR, argO, List.map_cons, List.flatMap_cons, e, argO1, h2, List.cons_append, List.nil_append]
    exact .row h1 h2 ih
  | agg h1 h2 _ ih =>
    have e : vl S _ = _ := h1
    simp only [argR, argO, List.map_cons, List.flatMap_cons, e, argO1]
    exact .agg h1 h2 ih

section
variable {P : Program}
/-- Results that are numbers, bools, strings. -/
def rawAR : AR → Bool
  | .one (.c (.raw _)) => true
  | .agg xs => xs.all fun x => match x with | .c (.raw _) => true | _ => false
  | _ => false

theorem rawAR_tags {r : AR} (h : rawAR r = true) : r.tags = [] := by
  cases r with
  | one x => cases x <;> first | rfl | cases h
  | agg xs =>
    simp only [rawAR] at h
    simp only [AR.tags]
    induction xs with
    | nil => rfl
    | cons x xs ih =>
      simp only [List.all_cons, Bool.and_eq_true] at h
      rw [List.flatMap_cons, ih h.2]
      cases x <;> first | rfl | cases h.1
theorem rawAR_flat {r : AR} (h : rawAR r = true) : r.flat = true := by
  cases r with
  | one x =>
    cases x with
    | c x => cases x <;> first | rfl | cases h
    | _ => cases h
  | agg xs =>
    simp only [rawAR] at h
    simp only [AR.flat]
    rw [List.all_eq_true] at h ⊢
    intro x hx
    have := h x hx
    cases x with
    | c x => cases x <;> first | rfl | cases this
    | _ => cases this

/-- Everything in a call's results is plain: any order will do. -/
theorem opx_call {f : FuncId} {xs : List Operand} {ats : Array TypeId} {args rs0 : List AR} {R : List (Operand × AV)} {RO : OL} {d : Nat} {ty : TypeId} {pos : String} {af : Array Edge}
    (hc : Con P f args [] (fun rs all => rs = rs0 ∧ all = [])) (hr : rs0.all rawAR = true) (ha : ∀ (S : Nat → AV) (O : Nat → OB) (f : Nat → Nat), AgL S R → OgL O RO → Args S O f true xs args) :
    OpX P ⟨some d, .call { callee := .value (.func f), args := xs.toArray, argTypes := ats }, ty, pos, af, none⟩ R RO [] [(d, mkRes rs0)] [] := by
  rintro cx S O V a w hR hO _ hU ⟨ρ, Z, hg⟩ K Q hK
  have hent : Entry w (fun t => ρ t) (fun g => Z g ∨ RowZ O ρ g) args [] (xs.map a.eval) := by
    refine ⟨(ha S O (fun t => t) hR hO).drl hg (fun _ h => .inl h) (fun _ _ h => .inr h), fun i => by simp [obAt]; trivial, fun i j g h1 => by simp [obAt, OB.live] at h1, fun i g h1 => by simp [obAt, OB.live] at h1, fun g h => ?_, hg.gl.mono (fun _ h => .inl h) (Same.refl _ _)⟩
    rcases h with h | ⟨t, wd, e, rows, h1, h2⟩
    · exact hg.zlt g h
    · exact hg.lt (by rw [h1]; rfl) h2
  have hcall := hc.run w _ _ _ hent
  unfold Oper.wp
  have hexec : (execOp a.eval ⟨some d, .call { callee := .value (.func f), args := xs.toArray, argTypes := ats }, ty, pos, af, none⟩).run P w = .ok (.enter f (xs.map a.eval).toArray) w := by
    rw [execOp_call_go, run_callFunc hc.ok]
    simp
  rw [hexec, Oper.upon_enter]
  refine hcall.mono fun e w' ⟨rs, all, us, ρ', Z', hpost, hlen, he, hl⟩ => ?_
  subst he
  obtain ⟨rfl, rfl⟩ := hpost
  have hgr : w.grownBy w' none := ⟨hl.os, hl.tape, hl.output, hl.size, fun g hg _ => hl.old g hg (by rintro ⟨i, h1, _⟩; simp [obAt, OB.live] at h1)⟩
  have hG := hg.grow hgr
  rw [List.all_eq_true] at hr
  have hres : DRL ρ Z w' rs us := DRL.mono (fun _ h => h) (Same.refl _ _) (fun x hx t ht => by rw [rawAR_tags (hr x hx)] at ht; cases ht) (hl.res.flat (Z' := Z) (List.all_eq_true.2 fun x hx => rawAR_flat (hr x hx)))
  have hda : DA ρ Z w' (mkRes rs) (mkRet us) := by
    match rs, us, hres with
    | [], [], _ => exact ⟨[], rfl, trivial⟩
    | [r], [u], h => exact h.1
    | r :: r2 :: rs, u :: u2 :: us, h => exact ⟨_, rfl, h⟩
  refine hK _ _ ⟨ρ, Z, (hG.put (blt_lt hU.1) hda fun s hs _ => ?_).weak fun t ht => ht.1⟩
  have : ∀ r ∈ rs, s ∉ r.tags := fun r hr' h => by rw [rawAR_tags (hr r hr')] at h; cases h
  match rs, hs with
  | [], hs => simp [mkRes, AV.tags] at hs
  | [r], hs => exact this r (.head _) hs
  | r :: r2 :: rs, hs =>
    simp only [mkRes, AV.tags, List.mem_flatMap] at hs
    obtain ⟨r', h6, h7⟩ := hs
    exact this r' h6 h7

variable {ops : Array Oper} {cx : Cx} {Q : APost} {rest : List Oper} {l : SL} {m : OL} {n : Nat}
variable {d : Nat} {ty : TypeId} {pos : String} {af : Array Edge} {f : FuncId} {xs : List Operand} {ats : Array TypeId} {args rs0 : List AR}

theorem al_callv (hc : Con P f args [] (fun rs all => rs = rs0 ∧ all = [])) (hr : rs0.all rawAR = true) (ha : ArgsX (lk .dead l) (lk .gone m) xs args) (hd : Nat.blt d cx.N = true) (k : AL P ops cx Q rest ((d, mkRes rs0) :: l) m n) :
    AL P ops cx Q (⟨some d, .call { callee := .value (.func f), args := xs.toArray, argTypes := ats }, ty, pos, af, none⟩ :: rest) l m n :=
  al_v (opx_call hc hr ha.d.ok.2.2) ha.d.ok.1 ha.d.ok.2.1 hd k
theorem ad_callv {ol : List Oper} {done : List Keys} (hc : Con P f args [] (fun rs all => rs = rs0 ∧ all = [])) (hr : rs0.all rawAR = true) (ha : ArgsX (lk .dead l) (lk .gone m) xs args) (hd : Nat.blt d cx.N = true)
    (k : AD P ol cx Q (⟨rtmps (argR (lk .dead l) xs), [d], (argO (lk .dead l) (lk .gone m) xs).map (·.1), [], []⟩ :: done) rest ((d, mkRes rs0) :: l) m n) :
    AD P ol cx Q done (⟨some d, .call { callee := .value (.func f), args := xs.toArray, argTypes := ats }, ty, pos, af, none⟩ :: rest) l m n :=
  ad_v (opx_call hc hr ha.d.ok.2.2) ha.d.ok.1 ha.d.ok.2.1 hd k
theorem ad_callv_on {ol : List Oper} {done : List Keys} {j dj : Nat} {want b : Bool} (hj : (ol.toArray[j]?).bind (·.dst) = some dj) (hb : lk .dead l dj = .b b) (hw : b = want)
    (hc : Con P f args [] (fun rs all => rs = rs0 ∧ all = [])) (hr : rs0.all rawAR = true) (ha : ArgsX (lk .dead l) (lk .gone m) xs args) (hd : Nat.blt d cx.N = true)
    (k : AD P ol cx Q (⟨dj :: rtmps (argR (lk .dead l) xs), [d], (argO (lk .dead l) (lk .gone m) xs).map (·.1), [], []⟩ :: done) rest ((d, mkRes rs0) :: l) m n) :
    AD P ol cx Q done (⟨some d, .call { callee := .value (.func f), args := xs.toArray, argTypes := ats }, ty, pos, af, some (j, want)⟩ :: rest) l m n :=
  ad_on hj hb hw (opx_call hc hr ha.d.ok.2.2) ha.d.ok.1 ha.d.ok.2.1 hd k

/-- one fresh slice as the result -/
theorem al_callr {wd : Nat} {e : TypeId} {rows : List (List CV)} (hc : Con P f args [] (fun rs all => rs = [.one (.own 0)] ∧ all = [.row wd e rows])) (ha : Args (lk .dead l) (lk .gone m) (cpi [] n) false xs args) (hd : Nat.blt d cx.N = true)
    (k : AL P ops cx Q rest ((d, .own n) :: l) ((n, .row wd e rows) :: m) (n + 1)) :
    AL P ops cx Q (⟨some d, .call { callee := .value (.func f), args := xs.toArray, argTypes := ats }, ty, pos, af, none⟩ :: rest) l m n :=
  al_call hc ha hd fun rs all ⟨h1, h2⟩ => by
    subst h1 h2
    exact k
def flatRows (rows : List (List CV)) : Prop := ∀ r ∈ rows, ∀ c ∈ r, CV.flat c = true
theorem al_callr_ro {wd : Nat} {e : TypeId} {rows : List (List CV)} (hc : Con P f args [] (fun rs all => rs = [.one (.own 0)] ∧ all = [.row wd e rows])) (hfl : flatRows rows) (ha : Args (lk .dead l) (lk .gone m) (cpi [] n) true xs args) (hd : Nat.blt d cx.N = true)
    (k : AL P ops cx Q rest ((d, .own n) :: l) ((n, .row wd e rows) :: m) (n + 1)) :
    AL P ops cx Q (⟨some d, .call { callee := .value (.func f), args := xs.toArray, argTypes := ats }, ty, pos, af, none⟩ :: rest) l m n :=
  al_call_ro hc (fun rs all ⟨h1, h2⟩ => by subst h1 h2; exact ⟨rfl, fun o ho => by simp at ho; subst ho; exact hfl⟩) ha hd fun rs all ⟨h1, h2⟩ => by
    subst h1 h2
    exact k
/-- a fresh slice and a plain result -/
theorem al_callrv_ro {wd : Nat} {e : TypeId} {rows : List (List CV)} {v : Value} (hc : Con P f args [] (fun rs all => rs = [.one (.own 0), .one (.c (.raw v))] ∧ all = [.row wd e rows])) (hfl : flatRows rows) (ha : Args (lk .dead l) (lk .gone m) (cpi [] n) true xs args) (hd : Nat.blt d cx.N = true)
    (k : AL P ops cx Q rest ((d, .tup [.one (.own n), .one (.c (.raw v))]) :: l) ((n, .row wd e rows) :: m) (n + 1)) :
    AL P ops cx Q (⟨some d, .call { callee := .value (.func f), args := xs.toArray, argTypes := ats }, ty, pos, af, none⟩ :: rest) l m n :=
  al_call_ro hc (fun rs all ⟨h1, h2⟩ => by subst h1 h2; exact ⟨rfl, fun o ho => by simp at ho; subst ho; exact hfl⟩) ha hd fun rs all ⟨h1, h2⟩ => by
    subst h1 h2
    exact k
theorem al_callrv {wd : Nat} {e : TypeId} {rows : List (List CV)} {v : Value} (hc : Con P f args [] (fun rs all => rs = [.one (.own 0), .one (.c (.raw v))] ∧ all = [.row wd e rows])) (ha : Args (lk .dead l) (lk .gone m) (cpi [] n) false xs args) (hd : Nat.blt d cx.N = true)
    (k : AL P ops cx Q rest ((d, .tup [.one (.own n), .one (.c (.raw v))]) :: l) ((n, .row wd e rows) :: m) (n + 1)) :
    AL P ops cx Q (⟨some d, .call { callee := .value (.func f), args := xs.toArray, argTypes := ats }, ty, pos, af, none⟩ :: rest) l m n :=
  al_call hc ha hd fun rs all ⟨h1, h2⟩ => by
    subst h1 h2
    exact k

/-! ### the same, the contract said last -/
theorem al_call_m2 {obs : List OB} {Post : List AR → List OB → Prop} (q : List Nat)
    (hq : (nodupB q && q.all (Nat.blt · n)) = true) (hobs : ObsOK m (cpi q n) q obs) (ha : Args (lk .dead l) (lk .gone m) (cpi q n) false xs args) (hd : Nat.blt d cx.N = true) (hc : Con P f args obs Post)
    (k : ∀ rs all, obs.length ≤ all.length → Post rs all → AL P ops cx Q rest ((d, mkRes (rs.map (·.sub (cpi q n)))) :: l) (obLM (cpi q n) 0 all ++ m) (n + (all.length - obs.length))) :
    AL P ops cx Q (⟨some d, .call { callee := .value (.func f), args := xs.toArray, argTypes := ats }, ty, pos, af, none⟩ :: rest) l m n := al_call_m q hc hq hobs ha hd k
theorem al_callv2 (ha : ArgsX (lk .dead l) (lk .gone m) xs args) (hd : Nat.blt d cx.N = true) (hc : Con P f args [] (fun rs all => rs = rs0 ∧ all = [])) (hr : rs0.all rawAR = true) (k : AL P ops cx Q rest ((d, mkRes rs0) :: l) m n) :
    AL P ops cx Q (⟨some d, .call { callee := .value (.func f), args := xs.toArray, argTypes := ats }, ty, pos, af, none⟩ :: rest) l m n := al_callv hc hr ha hd k
theorem ad_callv2 {ol : List Oper} {done : List Keys} (ha : ArgsX (lk .dead l) (lk .gone m) xs args) (hd : Nat.blt d cx.N = true) (hc : Con P f args [] (fun rs all => rs = rs0 ∧ all = [])) (hr : rs0.all rawAR = true)
    (k : AD P ol cx Q (⟨rtmps (argR (lk .dead l) xs), [d], (argO (lk .dead l) (lk .gone m) xs).map (·.1), [], []⟩ :: done) rest ((d, mkRes rs0) :: l) m n) :
    AD P ol cx Q done (⟨some d, .call { callee := .value (.func f), args := xs.toArray, argTypes := ats }, ty, pos, af, none⟩ :: rest) l m n := ad_callv hc hr ha hd k
theorem ad_callv_on2 {ol : List Oper} {done : List Keys} {j dj : Nat} {want b : Bool} (hj : (ol.toArray[j]?).bind (·.dst) = some dj) (hb : lk .dead l dj = .b b) (hw : b = want)
    (ha : ArgsX (lk .dead l) (lk .gone m) xs args) (hd : Nat.blt d cx.N = true) (hc : Con P f args [] (fun rs all => rs = rs0 ∧ all = [])) (hr : rs0.all rawAR = true)
    (k : AD P ol cx Q (⟨dj :: rtmps (argR (lk .dead l) xs), [d], (argO (lk .dead l) (lk .gone m) xs).map (·.1), [], []⟩ :: done) rest ((d, mkRes rs0) :: l) m n) :
    AD P ol cx Q done (⟨some d, .call { callee := .value (.func f), args := xs.toArray, argTypes := ats }, ty, pos, af, some (j, want)⟩ :: rest) l m n := ad_callv_on hj hb hw hc hr ha hd k
theorem al_call2 {Post : List AR → List OB → Prop} (ha : Args (lk .dead l) (lk .gone m) (cpi [] n) false xs args) (hd : Nat.blt d cx.N = true) (hc : Con P f args [] Post)
    (k : ∀ rs all, Post rs all → AL P ops cx Q rest ((d, mkRes (rs.map (·.sub (cpi [] n)))) :: l) (obLM (cpi [] n) 0 all ++ m) (n + all.length)) :
    AL P ops cx Q (⟨some d, .call { callee := .value (.func f), args := xs.toArray, argTypes := ats }, ty, pos, af, none⟩ :: rest) l m n := al_call hc ha hd k
theorem al_callr2 {wd : Nat} {e : TypeId} {rows : List (List CV)} (ha : Args (lk .dead l) (lk .gone m) (cpi [] n) false xs args) (hd : Nat.blt d cx.N = true) (hc : Con P f args [] (fun rs all => rs = [.one (.own 0)] ∧ all = [.row wd e rows]))
    (k : AL P ops cx Q rest ((d, .own n) :: l) ((n, .row wd e rows) :: m) (n + 1)) :
    AL P ops cx Q (⟨some d, .call { callee := .value (.func f), args := xs.toArray, argTypes := ats }, ty, pos, af, none⟩ :: rest) l m n := al_callr hc ha hd k
theorem al_callr_ro2 {wd : Nat} {e : TypeId} {rows : List (List CV)} (ha : Args (lk .dead l) (lk .gone m) (cpi [] n) true xs args) (hd : Nat.blt d cx.N = true) (hc : Con P f args [] (fun rs all => rs = [.one (.own 0)] ∧ all = [.row wd e rows])) (hfl : flatRows rows)
    (k : AL P ops cx Q rest ((d, .own n) :: l) ((n, .row wd e rows) :: m) (n + 1)) :
    AL P ops cx Q (⟨some d, .call { callee := .value (.func f), args := xs.toArray, argTypes := ats }, ty, pos, af, none⟩ :: rest) l m n := al_callr_ro hc hfl ha hd k
theorem al_callrv_ro2 {wd : Nat} {e : TypeId} {rows : List (List CV)} {v : Value} (ha : Args (lk .dead l) (lk .gone m) (cpi [] n) true xs args) (hd : Nat.blt d cx.N = true) (hc : Con P f args [] (fun rs all => rs = [.one (.own 0), .one (.c (.raw v))] ∧ all = [.row wd e rows])) (hfl : flatRows rows)
    (k : AL P ops cx Q rest ((d, .tup [.one (.own n), .one (.c (.raw v))]) :: l) ((n, .row wd e rows) :: m) (n + 1)) :
    AL P ops cx Q (⟨some d, .call { callee := .value (.func f), args := xs.toArray, argTypes := ats }, ty, pos, af, none⟩ :: rest) l m n := al_callrv_ro hc hfl ha hd k
theorem al_callrv2 {wd : Nat} {e : TypeId} {rows : List (List CV)} {v : Value} (ha : Args (lk .dead l) (lk .gone m) (cpi [] n) false xs args) (hd : Nat.blt d cx.N = true) (hc : Con P f args [] (fun rs all => rs = [.one (.own 0), .one (.c (.raw v))] ∧ all = [.row wd e rows]))
    (k : AL P ops cx Q rest ((d, .tup [.one (.own n), .one (.c (.raw v))]) :: l) ((n, .row wd e rows) :: m) (n + 1)) :
    AL P ops cx Q (⟨some d, .call { callee := .value (.func f), args := xs.toArray, argTypes := ats }, ty, pos, af, none⟩ :: rest) l m n := al_callrv hc ha hd k

theorem is_ad {ol todo : List Oper} {done : List Keys} (h : AD P ol cx Q done todo l m n) : AD P ol cx Q done todo l m n := h

section
variable {ol : List Oper} {done : List Keys} {x y z : Operand} {t t' : TypeId} {k : Nat} {gd : Option (Nat × Bool)}
theorem isd_move (h : AD P ol cx Q done (⟨some d, .move x, ty, pos, af, gd⟩ :: rest) l m n) : AD P ol cx Q done (⟨some d, .move x, ty, pos, af, gd⟩ :: rest) l m n := h
theorem isd_assign (h : AD P ol cx Q done (⟨some d, .assign x, ty, pos, af, gd⟩ :: rest) l m n) : AD P ol cx Q done (⟨some d, .assign x, ty, pos, af, gd⟩ :: rest) l m n := h
theorem isd_pick (h : AD P ol cx Q done (⟨some d, .pick x y z, ty, pos, af, gd⟩ :: rest) l m n) : AD P ol cx Q done (⟨some d, .pick x y z, ty, pos, af, gd⟩ :: rest) l m n := h
theorem isd_load (h : AD P ol cx Q done (⟨some d, .load t x, ty, pos, af, gd⟩ :: rest) l m n) : AD P ol cx Q done (⟨some d, .load t x, ty, pos, af, gd⟩ :: rest) l m n := h
theorem isd_fa (h : AD P ol cx Q done (⟨some d, .fieldAddr t x k, ty, pos, af, gd⟩ :: rest) l m n) : AD P ol cx Q done (⟨some d, .fieldAddr t x k, ty, pos, af, gd⟩ :: rest) l m n := h
theorem isd_bin {op : BinOp} (h : AD P ol cx Q done (⟨some d, .binOp op t x y t', ty, pos, af, gd⟩ :: rest) l m n) : AD P ol cx Q done (⟨some d, .binOp op t x y t', ty, pos, af, gd⟩ :: rest) l m n := h
theorem isd_st (h : AD P ol cx Q done (⟨none, .store t x y, ty, pos, af, none⟩ :: rest) l m n) : AD P ol cx Q done (⟨none, .store t x y, ty, pos, af, none⟩ :: rest) l m n := h
theorem is_bs {k : Nat} {ps : Array (Nat × Operand)} (h : AL P ops cx Q (⟨some d, .buildSlice t k ps, ty, pos, af, none⟩ :: rest) l m n) : AL P ops cx Q (⟨some d, .buildSlice t k ps, ty, pos, af, none⟩ :: rest) l m n := h
theorem isd_bs {k : Nat} {ps : Array (Nat × Operand)} (h : AD P ol cx Q done (⟨some d, .buildSlice t k ps, ty, pos, af, gd⟩ :: rest) l m n) : AD P ol cx Q done (⟨some d, .buildSlice t k ps, ty, pos, af, gd⟩ :: rest) l m n := h
theorem isd_ia (h : AD P ol cx Q done (⟨some d, .indexAddr t x y, ty, pos, af, gd⟩ :: rest) l m n) : AD P ol cx Q done (⟨some d, .indexAddr t x y, ty, pos, af, gd⟩ :: rest) l m n := h
theorem is_ia (h : AL P ops cx Q (⟨some d, .indexAddr t x y, ty, pos, af, gd⟩ :: rest) l m n) : AL P ops cx Q (⟨some d, .indexAddr t x y, ty, pos, af, gd⟩ :: rest) l m n := h
theorem isd_bi {b : Builtin} {args : Array Operand} {ats : Array TypeId} (h : AD P ol cx Q done (⟨some d, .call { callee := .builtin b, args := args, argTypes := ats }, ty, pos, af, gd⟩ :: rest) l m n) : AD P ol cx Q done (⟨some d, .call { callee := .builtin b, args := args, argTypes := ats }, ty, pos, af, gd⟩ :: rest) l m n := h
theorem isd_gd {op : Op} {j : Nat} {want : Bool} (h : AD P ol cx Q done (⟨some d, op, ty, pos, af, some (j, want)⟩ :: rest) l m n) : AD P ol cx Q done (⟨some d, op, ty, pos, af, some (j, want)⟩ :: rest) l m n := h
theorem isd_call {f : FuncId} {args : Array Operand} {ats : Array TypeId} (h : AD P ol cx Q done (⟨some d, .call { callee := .value (.func f), args := args, argTypes := ats }, ty, pos, af, gd⟩ :: rest) l m n) : AD P ol cx Q done (⟨some d, .call { callee := .value (.func f), args := args, argTypes := ats }, ty, pos, af, gd⟩ :: rest) l m n := h
theorem is_call {f : FuncId} {args : Array Operand} {ats : Array TypeId} (h : AL P ops cx Q (⟨some d, .call { callee := .value (.func f), args := args, argTypes := ats }, ty, pos, af, none⟩ :: rest) l m n) : AL P ops cx Q (⟨some d, .call { callee := .value (.func f), args := args, argTypes := ats }, ty, pos, af, none⟩ :: rest) l m n := h
end
end
end Go.Proofs.YtllgddednlfhfaaDoor
