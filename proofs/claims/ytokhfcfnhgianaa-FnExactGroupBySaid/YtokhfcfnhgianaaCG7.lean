/- Texts: Eng14 Eng16 Eng17 Inst Dat Dat2 Dat3 PL -/
import Derived.Test.YtokhfcfnhgianaaCG6
import Derived.Test.YtokhfcfnhgianaaRows
/-
  Contracts whose own slices are written no more.
-/
namespace Go.Proofs.Ytokhfcfnhgianaa
open Go.RowKit
set_option linter.unusedVariables false
set_option linter.unusedSimpArgs false

theorem DO.rowdc {ρ : Nat → Value} {Z Zc : Nat → Prop} {w : World} {t wd : Nat} {e : TypeId} {rows : List (List CV)} (ho : DO ρ Z w t (.row wd e rows)) (hZ : ∀ g, Z g → Zc g) (hR : ∀ g, blk (ρ t) = some g → Zc g) : DC Zc w (.sl wd rows) (ρ t) := by
  obtain ⟨h1, us, h2, h3⟩ := do_row.1 ho
  rcases h3 with ⟨h4, h5, rfl⟩ | ⟨g, off, cap, cur, h4, h5, h6, h7, h8, h9, h10⟩
  · have : rows = [] := List.eq_nil_of_length_eq_zero h5
    subst this
    rw [h4]; exact .nil wd none 0 (Nat.zero_le _)
  · have h2' : DL Zc w rows.flatten us := h2.mono hZ (Same.refl _ _)
    have hzg : Zc g := hR g (by rw [h4]; rfl)
    rw [h4]
    refine .sl wd rows g off _ cap us rfl h1 hzg h6 h7 h2'.len (fun k u hu => ?_) (fun k hk hk' => h2'.at k hk hk')
    rw [World.cell?, h5]
    simpa using h10 k u hu

theorem DO.rowlt {ρ : Nat → Value} {Z : Nat → Prop} {w : World} {t wd g : Nat} {e : TypeId} {rows : List (List CV)} (ho : DO ρ Z w t (.row wd e rows)) (hb : blk (ρ t) = some g) : g < w.heap.size := by
  obtain ⟨h1, us, h2, h3⟩ := do_row.1 ho
  rcases h3 with ⟨h4, h5, rfl⟩ | ⟨g', off, cap, cur, h4, h5, h6, h7, h8, h9, h10⟩
  · rw [h4] at hb; cases hb
  · rw [h4] at hb
    cases hb
    rcases Nat.lt_or_ge g' w.heap.size with h | h
    · exact h
    · rw [Array.getElem?_eq_none h] at h5; cases h5

/-- An own slice as a value. -/
def fz (all : List OB) : AR → AR
  | .one (.own t) => match obAt all t with
    | .row wd _ rows => .one (.c (.sl wd rows))
    | _ => .one (.own t)
  | r => r
def isRow : OB → Prop
  | .row _ _ _ => True
  | _ => False

theorem fz_dr {ρ : Nat → Value} {Z Zc : Nat → Prop} {w : World} {all : List OB} (ho : ∀ i, DO ρ Z w i (obAt all i)) (hZ : ∀ g, Z g → Zc g) (hR : ∀ i g, isRow (obAt all i) → blk (ρ i) = some g → Zc g)
    {r : AR} {v : Value} (h : DR ρ Z w r v) : DR ρ Zc w (fz all r) v := by
  have hdef : DR ρ Zc w r v := DR.mono hZ (Same.refl _ _) (fun _ _ => rfl) h
  unfold fz
  split
  · rename_i t
    split
    · rename_i wd e rows he
      have h1 := ho t
      rw [he] at h1
      have h2 : v = ρ t := h.1
      show DC Zc w _ v
      rw [h2]
      exact h1.rowdc hZ fun g hg => hR t g (by rw [he]; trivial) hg
    · exact hdef
  · exact hdef
theorem fz_drl {ρ : Nat → Value} {Z Zc : Nat → Prop} {w : World} {all : List OB} (ho : ∀ i, DO ρ Z w i (obAt all i)) (hZ : ∀ g, Z g → Zc g) (hR : ∀ i g, isRow (obAt all i) → blk (ρ i) = some g → Zc g) :
    ∀ {rs : List AR} {us : List Value}, DRL ρ Z w rs us → DRL ρ Zc w (rs.map (fz all)) us
  | [], [], _ => trivial
  | [], _ :: _, h => h.elim
  | _ :: _, [], h => h.elim
  | _ :: _, _ :: _, h => ⟨fz_dr ho hZ hR h.1, fz_drl ho hZ hR h.2⟩

theorem Con.froz {P : Program} {f : FuncId} {args : List AR} {Post Post' : List AR → List OB → Prop} (h : Con P f args [] Post)
    (hp : ∀ rs all, Post rs all → Post' (rs.map (fz all)) [] ∧ ((rs.map (fz all)).all fun r => r.tags.isEmpty) = true) : Con P f args [] Post' :=
  ⟨h.ok, fun w ρ Z vs he => (h.run w ρ Z vs he).mono fun e w' ⟨rs, all, us, ρ', Z', h1, h2, h3, h4⟩ => by
    obtain ⟨hp1, hp2⟩ := hp rs all h1
    refine ⟨rs.map (fz all), [], us, ρ', fun g => Z' g ∨ ∃ i, isRow (obAt all i) ∧ blk (ρ' i) = some g, hp1, Nat.le_refl _, h3, ?_⟩
    have hlive : ∀ i, isRow (obAt all i) → (obAt all i).live = true := fun i hi => by
      revert hi
      cases obAt all i <;> intro hi <;> first | rfl | exact hi.elim
    refine ⟨fz_drl h4.objs (fun _ h => .inl h) (fun i g hi hg => .inr ⟨i, hi, hg⟩) h4.res, fun i => trivial, fun i hi => absurd hi (Nat.not_lt_zero _), fun i j g hi => (by cases hi), fun i g hi => (by cases hi), fun g hg => .inl (h4.zmono g hg), fun g hg => ?_, fun g hg => ?_, ⟨?_, rfl⟩, h4.os, h4.tape, h4.output, h4.size, h4.old⟩
    · rcases hg with hg | ⟨i, hi, hg⟩
      · exact h4.znew g hg
      · exact .inr (h4.out i g (hlive i hi) hg).2
    · rcases hg with hg | ⟨i, hi, hg⟩
      · exact h4.zlt g hg
      · have := h4.objs i
        revert hi this
        cases hob : obAt all i <;> intro hi this <;> first | exact hi.elim | exact this.rowlt hg
    · rw [List.all_eq_true] at hp2 ⊢
      intro r hr
      have := hp2 r hr
      rw [List.isEmpty_iff] at this
      rw [this]; rfl⟩

section
variable {P : Program} {ops : Array Oper} {cx : Cx} {Q : APost} {rest : List Oper} {l : SL} {m : OL} {n d : Nat} {ty : TypeId} {pos : String} {af : Array Edge} {f : FuncId} {xs : List Operand} {ats : Array TypeId} {args rs0 : List AR}
def noTags (rs : List AR) : Bool := rs.all fun r => r.tags.isEmpty
theorem noTags_sub {rs : List AR} (h : noTags rs = true) (f : Nat → Nat) : rs.map (·.sub f) = rs := by
  induction rs with
  | nil => rfl
  | cons r rs ih =>
    simp only [noTags, List.all_cons, Bool.and_eq_true] at h
    rw [List.map_cons, ih h.2]
    have h1 := h.1
    rw [List.isEmpty_iff] at h1
    congr 1
    cases r with
    | one x => cases x with
      | fn g r caps => cases r with
        | none => rfl
        | some p => simp [AR.tags, A1.tag] at h1
      | _ => first | rfl | (simp [AR.tags, A1.tag] at h1)
    | agg xs =>
      simp only [AR.tags, List.flatMap_eq_nil_iff] at h1
      simp only [AR.sub, AR.agg.injEq]
      refine (List.map_congr_left fun x hx => ?_).trans (List.map_id _)
      have := h1 x hx
      cases x with
      | fn g r caps => cases r with
        | none => rfl
        | some p => simp [A1.tag] at this
      | _ => first | rfl | (simp [A1.tag] at this)
theorem al_callF {rs : List AR} (ha : Args (lk .dead l) (lk .gone m) (cpi [] n) false xs args) (hd : Nat.blt d cx.N = true) (hc : Con P f args [] (fun r all => r = rs ∧ all = [])) (ht : noTags rs = true)
    (k : AL P ops cx Q rest ((d, mkRes rs) :: l) m n) :
    AL P ops cx Q (⟨some d, .call { callee := .value (.func f), args := xs.toArray, argTypes := ats }, ty, pos, af, none⟩ :: rest) l m n :=
  al_call hc ha hd fun r all ⟨h1, h2⟩ => by
    subst h1 h2
    rw [noTags_sub ht]
    exact k
end
end Go.Proofs.Ytokhfcfnhgianaa
/-
  Function values; variables that are captured; more rules.
-/
namespace Go.Proofs.Ytokhfcfnhgianaa
open Go.RowKit
set_option linter.unusedVariables false
set_option linter.unusedSimpArgs false

/-- An object that nobody writes any more: its block joins the zone. -/
theorem Good.retire {cx : Cx} {S : Nat → AV} {O : Nat → OB} {V : Nat → Prop} {a : Act} {w : World} {ρ : Nat → Value} {Z : Nat → Prop} (h : Good cx S O V a w ρ Z) {t : Nat} (hl : (O t).live = true) :
    Good cx S (lkf O [(t, .gone)]) V a w ρ (fun g => Z g ∨ blk (ρ t) = some g) := by
  refine ⟨h.size, h.defers, fun s => DA.mono (fun _ hz => .inl hz) (Same.refl _ _) (fun _ _ => rfl) (h.slot s), fun s => ?_, fun s s' g h1 h2 h3 h4 => ?_, fun s g h1 h2 => ?_, fun g hz => hz.elim (h.zlt g) (h.lt hl), fun s hs => ?_, h.os, h.tape, h.output, h.big, h.old, h.pin, h.vlo, ⟨fun g hz => .inl (h.zin.1 g hz), h.zin.2⟩, fun g hz => hz.elim (h.zout g) (fun hb => .inr (h.out t g hl hb).2)⟩
  · rw [lkf_one]
    split
    · trivial
    · exact DO.mono (fun _ hz => .inl hz) (Same.refl _ _) rfl (fun _ _ => rfl) (fun _ _ _ => rfl) (h.obj s)
  · have live_of : ∀ s, (lkf O [(t, .gone)] s).live = true → (O s).live = true := fun s hs => by
      rw [lkf_one] at hs
      split at hs
      · cases hs
      · exact hs
    exact h.sep s s' g (live_of s h1) (live_of s' h2) h3 h4
  · rw [lkf_one] at h1
    split at h1
    · cases h1
    · rename_i e
      refine ⟨fun hz => ?_, (h.out s g h1 h2).2⟩
      rcases hz with hz | hz
      · exact (h.out s g h1 h2).1 hz
      · exact e (h.sep s t g h1 hl h2 hz)
  · obtain ⟨h1, h2, h3⟩ := h.virgin s hs
    have hne : s ≠ t := fun e => by subst e; rw [h1] at hl; cases hl
    refine ⟨by rw [lkf_one, if_neg hne]; exact h1, h2, fun s' => ?_⟩
    rw [lkf_one]
    split
    · exact fun hm => by cases hm
    · exact h3 s'
/-- A slot is seen anew. -/
theorem Good.see {cx : Cx} {S : Nat → AV} {O : Nat → OB} {V : Nat → Prop} {a : Act} {w : World} {ρ : Nat → Value} {Z : Nat → Prop} (hg : Good cx S O V a w ρ Z) (s : Nat) {x : AV} (hx : DA ρ Z w x (a.tmps.getD s undef)) (ht : x.tags = []) :
    Good cx (lkf S [(s, x)]) O V a w ρ Z := by
  refine ⟨hg.size, hg.defers, fun t => ?_, hg.obj, hg.sep, hg.out, hg.zlt, fun t ht' => ?_, hg.os, hg.tape, hg.output, hg.big, hg.old, hg.pin, hg.vlo, hg.zin, hg.zout⟩
  · rw [lkf_one]
    split
    · rename_i e; subst e; exact hx
    · exact hg.slot t
  · obtain ⟨a1, a2, a3⟩ := hg.virgin t ht'
    refine ⟨a1, fun s' => ?_, a3⟩
    rw [lkf_one]
    split
    · rw [ht]; exact fun h => by cases h
    · exact a2 s'
section
variable {cx : Cx} {l : SL} {m : OL} {n : Nat}
/-- A variable of one cell that is written no more. -/
theorem le_retire (s t : Nat) {e : TypeId} {c : CV} (h : lk .dead l s = .ref t 0) (ho : lk .gone m t = .box e [.c c]) : Le cx l m n ((s, .imm [c]) :: l) ((t, .gone) :: m) n := by
  rintro a w ⟨ρ, Z, hg⟩
  have hl : (lk OB.gone m t).live = true := by rw [ho]; rfl
  have h1 := hg.retire hl
  have hob := hg.obj t
  rw [ho] at hob
  obtain ⟨g, us, h2, h3, h4⟩ := hob
  have hs := hg.slot s
  rw [h] at hs
  obtain ⟨g', o', h5, h6⟩ := hs
  rw [h2] at h5
  cases h5
  have hx : DA ρ (fun g => Z g ∨ blk (ρ t) = some g) w (.imm [c]) (a.tmps.getD s undef) := by
    obtain ⟨Z', hZ'⟩ : ∃ Z', Z' = fun g => Z g ∨ blk (ρ t) = some g := ⟨_, rfl⟩
    rw [← hZ']
    cases us with
    | nil => exact h4.elim
    | cons u us =>
      cases us with
      | cons _ _ => exact h4.2.elim
      | nil =>
        refine ⟨g, 0, [u], h6, by rw [hZ']; exact .inr (by rw [h2]; rfl), ⟨DC.mono (fun _ hz => by rw [hZ']; exact .inl hz) (Same.refl _ _) h4.1, trivial⟩, fun k v hk => ?_⟩
        cases k with
        | zero => rw [World.cell?, h3]; simpa using hk
        | succ k => simp at hk
  exact ⟨ρ, _, h1.see s hx rfl⟩
end

section
variable {P : Program} {R : List (Operand × AV)} {RO : List (Nat × OB)}
variable {d : Nat} {x y z : Operand} {t t' ty : TypeId} {pos : String} {af : Array Edge} {gd : Option (Nat × Bool)}
theorem opx_mkfn1 {f : FuncId} {xs : List CV} : OpX P ⟨some d, .makeFunc (.func f) #[] #[x], ty, pos, af, gd⟩ [(x, .imm xs)] [] [] [(d, .r (.one (.fn f none [xs])))] [] :=
  opx_val rfl fun cx S O V a w ρ Z hg hR _ => by
    have h := hg.ag hR.1
    refine ⟨.func (.func f) #[] #[a.eval x], by simp [execOp, Instr.makeFunc], ⟨[], [a.eval x], rfl, rfl, h, trivial⟩, fun t ht => by cases ht⟩
theorem run_call_fn {a : Act} {f : FuncId} {xs : List Operand} {ats : Array TypeId} {fs cs : List Value} (hv : a.eval x = .func (.func f) fs.toArray cs.toArray) (h : fnOk P f = true) (w : World) :
    (execOp a.eval ⟨some d, .call { callee := .value x, args := xs.toArray, argTypes := ats }, ty, pos, af, gd⟩).run P w = .ok (.enter f (fs ++ xs.map a.eval ++ cs).toArray) w := by
  rw [← run_callFunc h]
  simp [execOp, resolve, hv, Deferred.ofValue, invoke]
/-- A call whose results are plain, whatever stands as the callee. -/
theorem opx_enter {op : Op} {f : FuncId} {args rs0 : List AR}
    (hc : Con P f args [] (fun rs all => rs = rs0 ∧ all = [])) (hr : rs0.all rawAR = true)
    (H : ∀ (cx : Cx) (S : Nat → AV) (O : Nat → OB) (V : Nat → Prop) (a : Act) (w : World) (ρ : Nat → Value) (Z : Nat → Prop), Good cx S O V a w ρ Z → AgL S R → OgL O RO →
      ∃ vs : List Value, (execOp a.eval ⟨some d, op, ty, pos, af, none⟩).run P w = .ok (.enter f vs.toArray) w ∧ DRL ρ (fun g => Z g ∨ RowZ O ρ g) w args vs) :
    OpX P ⟨some d, op, ty, pos, af, none⟩ R RO [] [(d, mkRes rs0)] [] := by
  rintro cx S O V a w hR hO _ hU ⟨ρ, Z, hg⟩ K Q hK
  obtain ⟨vs, hexec, hdr⟩ := H cx S O V a w ρ Z hg hR hO
  have hent : Entry w (fun t => ρ t) (fun g => Z g ∨ RowZ O ρ g) args [] vs := by
    refine ⟨hdr, fun i => by simp [obAt]; trivial, fun i j g h1 => by simp [obAt, OB.live] at h1, fun i g h1 => by simp [obAt, OB.live] at h1, fun g h => ?_, hg.gl.mono (fun _ h => .inl h) (Same.refl _ _)⟩
    rcases h with h | ⟨t, wd, e, rows, h1, h2⟩
    · exact hg.zlt g h
    · exact hg.lt (by rw [h1]; rfl) h2
  have hcall := hc.run w _ _ _ hent
  unfold Oper.wp
  rw [hexec, Oper.upon_enter]
  refine hcall.mono fun e w' ⟨rs, all, us, ρ', Z', hpost, hlen, he, hl⟩ => ?_
  subst he
  obtain ⟨rfl, rfl⟩ := hpost
  have hgr : w.grownBy w' none := ⟨hl.os, hl.tape, hl.output, hl.size, fun g hg _ => hl.old g hg (by rintro ⟨i, h1, _⟩; simp [obAt, OB.live] at h1)⟩
  have hG := hg.grow hgr
  rw [List.all_eq_true] at hr
  have hres : DRL ρ Z w' rs us := DRL.mono (fun _ h => h) (Same.refl _ _) (fun x hx t ht => by rw [rawAR_tags (hr x hx)] at ht; cases ht) (hl.res.flat (Z' := Z) (List.all_eq_true.2 fun x hx => rawAR_flat (hr x hx)))
  have hda : DA ρ Z w' (mkRes rs) (mkRet us) := by
    match rs, us, hres with
    | [], [], _ => exact ⟨[], rfl, trivial⟩
    | [r], [u], h => exact h.1
    | r :: r2 :: rs, u :: u2 :: us, h => exact ⟨_, rfl, h⟩
  refine hK _ _ ⟨ρ, Z, (hG.put (blt_lt hU.1) hda fun s hs _ => ?_).weak fun t ht => ht.1⟩
  have : ∀ r ∈ rs, s ∉ r.tags := fun r hr' h => by rw [rawAR_tags (hr r hr')] at h; cases h
  match rs, hs with
  | [], hs => simp [mkRes, AV.tags] at hs
  | [r], hs => exact this r (.head _) hs
  | r :: r2 :: rs, hs =>
    simp only [mkRes, AV.tags, List.mem_flatMap] at hs
    obtain ⟨r', h6, h7⟩ := hs
    exact this r' h6 h7
theorem drl_append {ρ : Nat → Value} {Z : Nat → Prop} {w : World} : ∀ {xs ys : List AR} {us vs : List Value}, DRL ρ Z w xs us → DRL ρ Z w ys vs → DRL ρ Z w (xs ++ ys) (us ++ vs)
  | [], _, [], _, _, h => h
  | _ :: _, _, _ :: _, _, h1, h => ⟨h1.1, drl_append h1.2 h⟩
  | [], _, _ :: _, _, h, _ => h.elim
  | _ :: _, _, [], _, h, _ => h.elim
def capAR (caps : List (List CV)) : List AR := caps.map fun c => .one (.imm c)
theorem dil_drl {ρ : Nat → Value} {Z : Nat → Prop} {w : World} : ∀ {caps : List (List CV)} {cs : List Value}, DIL Z w caps cs → DRL ρ Z w (capAR caps) cs
  | [], [], _ => trivial
  | _ :: _, _ :: _, h => ⟨h.1, dil_drl h.2⟩
  | [], _ :: _, h => h.elim
  | _ :: _, [], h => h.elim
theorem opx_callfn {g : FuncId} {caps : List (List CV)} {xs : List Operand} {ats : Array TypeId} {args rs0 : List AR}
    (hc : Con P g (args ++ capAR caps) [] (fun rs all => rs = rs0 ∧ all = [])) (hr : rs0.all rawAR = true) (hx : ∀ S : Nat → AV, AgL S R → Ag S x (.r (.one (.fn g none caps)))) (ha : ∀ (S : Nat → AV) (O : Nat → OB) (f : Nat → Nat), AgL S R → OgL O RO → Args S O f true xs args) :
    OpX P ⟨some d, .call { callee := .value x, args := xs.toArray, argTypes := ats }, ty, pos, af, none⟩ R RO [] [(d, mkRes rs0)] [] :=
  opx_enter hc hr fun cx S O V a w ρ Z hg hR hO => by
    obtain ⟨fs, cs, h1, h2, h3⟩ := hg.ag (hx S hR)
    cases h2
    refine ⟨_, run_call_fn h1 hc.ok w, ?_⟩
    have h4 := (ha S O (fun t => t) hR hO).drl hg (Zc := fun g => Z g ∨ RowZ O ρ g) (fun _ h => .inl h) (fun _ _ h => .inr h)
    exact drl_append h4 (dil_drl (h3.mono (fun _ h => .inl h) (Same.refl _ _)))
def isI64 (P : Program) (t : TypeId) : Bool := match P.underlying t with | some (.int .i64) => true | _ => false
def isStr (P : Program) (t : TypeId) : Bool := match P.underlying t with | some .string => true | _ => false
def isStc (P : Program) (t : TypeId) : Bool := match P.underlying t with | some (.struct _) => true | _ => false
def eq2B (P : Program) (t : TypeId) (k : TypeId → Bool) : Bool :=
  (match (P.fieldsOf t).toList with
  | [f, g] => f.name != "_" && g.name != "_" && f.offset == 0 && g.offset == 1 && k f.type && k g.type
  | _ => false) && isStc P t && !P.stoodInHeld t && !P.eqGuardType P.depth t
class EqP (P : Program) (t : TypeId) : Prop where
  ok : eq2B P t (isI64 P) = true
class EqS (P : Program) (t : TypeId) : Prop where
  ok : eq2B P t (isStr P) = true
theorem eq2_of {k : TypeId → Bool} (h : eq2B P t k = true) : ∃ f g : Field, (P.fieldsOf t).toList = [f, g] ∧ f.name ≠ "_" ∧ g.name ≠ "_" ∧ f.offset = 0 ∧ g.offset = 1 ∧ k f.type = true ∧ k g.type = true ∧
    P.underlying t = some (.struct (P.fieldsOf t)) ∧ P.stoodInHeld t = false ∧ P.eqGuardType P.depth t = false := by
  simp only [eq2B, Bool.and_eq_true, Bool.not_eq_true'] at h
  obtain ⟨⟨⟨h1, h2⟩, h3⟩, h4⟩ := h
  have h5 : P.underlying t = some (.struct (P.fieldsOf t)) := by
    unfold isStc at h2
    unfold Program.fieldsOf
    split at h2
    · rename_i fs he; rw [he]
    · cases h2
  split at h1
  · rename_i f g he
    simp only [Bool.and_eq_true, bne_iff_ne, ne_eq, beq_iff_eq] at h1
    exact ⟨f, g, he, h1.1.1.1.1.1, h1.1.1.1.1.2, h1.1.1.1.2, h1.1.1.2, h1.1.2, h1.2, h5, h3, h4⟩
  · cases h1
theorem run_part1 {w : World} {e : TypeId} (he : isI64 P e = true ∨ isStr P e = true) {xs : Array Value} {off : Nat} {v : Value} (hx : xs[off]? = some v) : (part e xs off).run P w = .ok v w := by
  rcases he with he | he
  · unfold isI64 at he
    split at he
    · rename_i hu; simp [part, isAgg, run_underlying hu, hx]
    · cases he
  · unfold isStr at he
    split at he
    · rename_i hu; simp [part, isAgg, run_underlying hu, hx]
    · cases he
theorem isI64_of {e : TypeId} (he : isI64 P e = true) : P.underlying e = some (.int .i64) := by
  unfold isI64 at he
  split at he
  · assumption
  · cases he
theorem isStr_of {e : TypeId} (he : isStr P e = true) : P.underlying e = some .string := by
  unfold isStr at he
  split at he
  · assumption
  · cases he
theorem run_eqS (w : World) (h : EqS P t) (a b c e : List UInt8) : (Op.equalIn 10000 t (.agg #[.string ⟨a.toArray⟩, .string ⟨b.toArray⟩]) (.agg #[.string ⟨c.toArray⟩, .string ⟨e.toArray⟩])).run P w = .ok (decide (a = c ∧ b = e)) w := by
  obtain ⟨f, g, h1, h2, h3, h4, h5, h6, h7, h8, h9, h10⟩ := eq2_of h.ok
  rw [run_equalIn_agg w 9999 t _ _ h8 h9, h1]
  have p1 : ∀ (x y : Value), (part f.type #[x, y] f.offset).run P w = .ok x w := fun x y => run_part1 (.inr h6) (by rw [h4]; rfl)
  have p2 : ∀ (x y : Value), (part g.type #[x, y] g.offset).run P w = .ok y w := fun x y => run_part1 (.inr h7) (by rw [h5]; rfl)
  have q : ∀ m n : List UInt8, ((⟨m.toArray⟩ : ByteArray).toList == (⟨n.toArray⟩ : ByteArray).toList) = decide (m = n) := fun m n => by
    rw [ByteArray.toList_eq, ByteArray.toList_eq, Bool.eq_iff_iff]; simp
  simp only [Op.eqFields, if_pos h2, if_pos h3, Sem.run_bind, p1, p2, Result.andThen_ok, run_equalIn_string w 9998 _ _ _ (isStr_of h6), run_equalIn_string w 9998 _ _ _ (isStr_of h7), q]
  by_cases ha : a = c <;> by_cases hb : b = e <;> simp [ha, hb, p2, run_equalIn_string w 9998 _ _ _ (isStr_of h7), q]
theorem agg2_val {ρ : Nat → Value} {Z : Nat → Prop} {w : World} {u u' v : Value} (h : DA ρ Z w (.agg [.c (.raw u), .c (.raw u')]) v) : v = .agg #[u, u'] := by
  obtain ⟨us, h1, h2⟩ := h
  match us, h2 with
  | [a, b], h2 =>
    have e1 : a = u := da_raw (ρ := ρ) (Z := Z) (w := w) (show DA ρ Z w (.raw u) a from h2.1)
    have e2 : b = u' := da_raw (ρ := ρ) (Z := Z) (w := w) (show DA ρ Z w (.raw u') b from h2.2.1)
    rw [h1, e1, e2]
  | [], h2 => exact h2.elim
  | [_], h2 => exact h2.2.elim
  | _ :: _ :: _ :: _, h2 => exact h2.2.2.elim
theorem opx_neS [hT : EqS P t] {a b c e : List UInt8} : OpX P ⟨some d, .binOp .neq t x y t', ty, pos, af, gd⟩ [(x, .agg [.c (.raw (.string ⟨a.toArray⟩)), .c (.raw (.string ⟨b.toArray⟩))]), (y, .agg [.c (.raw (.string ⟨c.toArray⟩)), .c (.raw (.string ⟨e.toArray⟩))])] [] [] [(d, .b (!decide (a = c ∧ b = e)))] [] :=
  opx_val rfl fun cx S O V aa w ρ Z hg hR hO => by
    refine ⟨.bool (!decide (a = c ∧ b = e)), ?_, da_mk rfl, by simp [AV.tags, AR.tags, A1.tag]⟩
    obtain ⟨f, g, h1, h2, h3, h4, h5, h6, h7, h8, h9, h10⟩ := eq2_of hT.ok
    simp only [execOp, agg2_val (hg.ag hR.1), agg2_val (hg.ag hR.2.1), Sem.run_bind, run_eqGuard_agg w .neq t x y _ _ h10, Result.andThen_ok, run_neq_struct, run_eqS w hT, Sem.run_pure]
end
section
variable {P : Program} {ops : Array Oper} {cx : Cx} {Q : APost} {rest : List Oper} {l : SL} {m : OL} {n : Nat}
variable {d : Nat} {ty : TypeId} {pos : String} {af : Array Edge} {f : FuncId} {xs : List Operand} {ats : Array TypeId} {args rs0 : List AR} {x : Operand}
theorem al_callfn2 {g : FuncId} {caps : List (List CV)} (hx : Ag (lk .dead l) x (.r (.one (.fn g none caps)))) (ha : ArgsX (lk .dead l) (lk .gone m) xs args) (hd : Nat.blt d cx.N = true) (hc : Con P g (args ++ capAR caps) [] (fun rs all => rs = rs0 ∧ all = [])) (hr : rs0.all rawAR = true)
    (k : AL P ops cx Q rest ((d, mkRes rs0) :: l) m n) :
    AL P ops cx Q (⟨some d, .call { callee := .value x, args := xs.toArray, argTypes := ats }, ty, pos, af, none⟩ :: rest) l m n := by
  obtain ⟨h1, h2, h3⟩ := ha.d.ok
  exact al_v (opx_callfn (R := (x, .r (.one (.fn g none caps))) :: argR (lk .dead l) xs) hc hr (fun S hS => hS.1) (fun S O f hS hO => h3 S O f hS.2 hO)) ⟨hx, h1⟩ h2 hd k
/-- A call that writes one slice of the caller's own. -/
theorem al_mark {wd : Nat} {e : TypeId} {rows rows' : List (List CV)} {r : Value} (t : Nat) (hm : lk .gone m t = .row wd e rows) (ht : Nat.blt t n = true) (ha : Args (lk .dead l) (lk .gone m) (cpi [t] n) false xs args) (hd : Nat.blt d cx.N = true)
    (hc : Con P f args [.row wd e rows] (fun rs all => rs = [.one (.c (.raw r))] ∧ all = [.row wd e rows'])) (k : AL P ops cx Q rest ((d, .raw r) :: l) ((t, .row wd e rows') :: m) n) :
    AL P ops cx Q (⟨some d, .call { callee := .value (.func f), args := xs.toArray, argTypes := ats }, ty, pos, af, none⟩ :: rest) l m n :=
  al_call_m [t] hc (by simp [nodupB, ht]) ⟨hm, trivial⟩ ha hd fun rs all _ ⟨h1, h2⟩ => by
    subst h1 h2
    exact k
theorem al_mkfn1 {s1 t1 : Nat} {e1 : TypeId} {a : CV} (h1 : lk .dead l s1 = .ref t1 0) (o1 : lk .gone m t1 = .box e1 [.c a]) (hd : Nat.blt d cx.N = true)
    (k : AL P ops cx Q rest ((d, .r (.one (.fn f none [[a]]))) :: (s1, .imm [a]) :: l) ((t1, .gone) :: m) n) :
    AL P ops cx Q (⟨some d, .makeFunc (.func f) #[] #[.tmp s1], ty, pos, af, none⟩ :: rest) l m n := by
  refine al_le (le_retire s1 t1 h1 o1) ?_
  exact al_v opx_mkfn1 ⟨by simp [Ag, vl, lk, beq_self], trivial⟩ trivial hd k
end
end Go.Proofs.Ytokhfcfnhgianaa
/-
  Calls in drawn regions whose answers are values with memory of their own.
-/
namespace Go.Proofs.Ytokhfcfnhgianaa
open Go.RowKit
set_option linter.unusedVariables false
set_option linter.unusedSimpArgs false

/-- Arguments that are values, or slices written no more. -/
inductive ArgsY (S : Nat → AV) (O : Nat → OB) : List Operand → List AR → Prop where
  | nil : ArgsY S O [] []
  | one {x : Operand} {r : AR} {xs : List Operand} {rs : List AR} : Ag S x (.r r) → r.tags = [] → ArgsY S O xs rs → ArgsY S O (x :: xs) (r :: rs)
  | froz {x : Operand} {t wd : Nat} {rows : List (List CV)} {xs : List Operand} {rs : List AR} : Ag S x (.own t) → O t = .froz wd rows → ArgsY S O xs rs → ArgsY S O (x :: xs) (.one (.c (.sl wd rows)) :: rs)
  | rnil {x : Operand} {wd : Nat} {xs : List Operand} {rs : List AR} : Ag S x (.raw (.slice none 0 0)) → ArgsY S O xs rs → ArgsY S O (x :: xs) (.one (.c (.sl wd [])) :: rs)
theorem ArgsY.ok {S : Nat → AV} {O : Nat → OB} {xs : List Operand} {rs : List AR} (h : ArgsY S O xs rs) : AgL S (argR S xs) ∧ OgL O (argO S O xs) ∧
    ∀ (S' : Nat → AV) (O' : Nat → OB) (f : Nat → Nat), AgL S' (argR S xs) → OgL O' (argO S O xs) → Args S' O' f false xs rs := by
  induction h with
  | nil => exact ⟨trivial, trivial, fun _ _ _ _ _ => .nil⟩
  | one h1 h2 _ ih =>
    have e : vl S _ = _ := h1
    simp only [argR, argO, List.map_cons, List.flatMap_cons, e, argO1_c h2, List.nil_append]
    exact ⟨⟨h1, ih.1⟩, ih.2.1, fun S' O' f hR hO => .one hR.1 h2 (ih.2.2 S' O' f hR.2 hO)⟩
  | froz h1 h2 _ ih =>
    have e : vl S _ = _ := h1
    simp only [argR, argO, List.map_cons, List.flatMap_cons, e, argO1, h2, List.cons_append, List.nil_append]
    exact ⟨⟨h1, ih.1⟩, ⟨h2, ih.2.1⟩, fun S' O' f hR hO => .froz hR.1 hO.1 (ih.2.2 S' O' f hR.2 hO.2)⟩
  | rnil h1 _ ih =>
    have e : vl S _ = _ := h1
    simp only [argR, argO, List.map_cons, List.flatMap_cons, e, argO1, List.nil_append]
    exact ⟨⟨h1, ih.1⟩, ih.2.1, fun S' O' f hR hO => .rnil hR.1 (ih.2.2 S' O' f hR.2 hO)⟩
end Go.Proofs.Ytokhfcfnhgianaa
/-
  Facts on the translation's types, for the engine's rules. Written by a program of our own.
-/
namespace Go.Proofs.Ytokhfcfnhgianaa
open Go.RowKit
instance : TyOne Try.prog 2 := ⟨by kernel_rfl⟩
instance : TyZ Try.prog 2 [.int .i64 0] := ⟨by kernel_rfl, rfl⟩
instance : TyOne Try.prog 3 := ⟨by kernel_rfl⟩
instance : TyZ Try.prog 3 [.int .i64 0] := ⟨by kernel_rfl, rfl⟩
instance : TyOne Try.prog 4 := ⟨by kernel_rfl⟩
instance : TyZ Try.prog 4 [.bool false] := ⟨by kernel_rfl, rfl⟩
instance : BoolT Try.prog 4 := ⟨by kernel_rfl⟩
instance : TyOne Try.prog 5 := ⟨by kernel_rfl⟩
instance : TyZ Try.prog 5 [.int .u8 0] := ⟨by kernel_rfl, rfl⟩
instance : TyOne Try.prog 6 := ⟨by kernel_rfl⟩
instance : TyZ Try.prog 6 [.int .u8 0] := ⟨by kernel_rfl, rfl⟩
instance : TyOne Try.prog 9 := ⟨by kernel_rfl⟩
instance : TyZ Try.prog 9 [.string ⟨#[]⟩] := ⟨by kernel_rfl, rfl⟩
instance : StrT Try.prog 9 := ⟨by kernel_rfl⟩
instance : TyOne Try.prog 10 := ⟨by kernel_rfl⟩
instance : TyZ Try.prog 10 [.string ⟨#[]⟩] := ⟨by kernel_rfl, rfl⟩
instance : StrT Try.prog 10 := ⟨by kernel_rfl⟩
instance : TyOne Try.prog 11 := ⟨by kernel_rfl⟩
instance : TyZ Try.prog 11 [.string ⟨#[]⟩] := ⟨by kernel_rfl, rfl⟩
instance : StrT Try.prog 11 := ⟨by kernel_rfl⟩
instance : TyOne Try.prog 12 := ⟨by kernel_rfl⟩
instance : TyZ Try.prog 12 [.int .u64 0] := ⟨by kernel_rfl, rfl⟩
instance : TyOne Try.prog 15 := ⟨by kernel_rfl⟩
instance : TyZ Try.prog 15 [.pointer none] := ⟨by kernel_rfl, rfl⟩
instance : TyOne Try.prog 16 := ⟨by kernel_rfl⟩
instance : TyZ Try.prog 16 [.pointer none] := ⟨by kernel_rfl, rfl⟩
instance : TyOne Try.prog 17 := ⟨by kernel_rfl⟩
instance : TyZ Try.prog 17 [.pointer none] := ⟨by kernel_rfl, rfl⟩
instance : TyOne Try.prog 21 := ⟨by kernel_rfl⟩
instance : TyZ Try.prog 21 [.int .i32 0] := ⟨by kernel_rfl, rfl⟩
instance : TyOne Try.prog 22 := ⟨by kernel_rfl⟩
instance : TyZ Try.prog 22 [.slice none 0 0] := ⟨by kernel_rfl, rfl⟩
instance : SlT Try.prog 22 38 2 32 [.slice none 0 0, .int .i64 0] := ⟨by kernel_rfl, rfl, by decide, rfl⟩
instance : TyOne Try.prog 23 := ⟨by kernel_rfl⟩
instance : TyZ Try.prog 23 [.slice none 0 0] := ⟨by kernel_rfl, rfl⟩
instance : SlT Try.prog 23 9 1 16 [.string ⟨#[]⟩] := ⟨by kernel_rfl, rfl, by decide, rfl⟩
instance : TyOne Try.prog 26 := ⟨by kernel_rfl⟩
instance : TyZ Try.prog 26 [.slice none 0 0] := ⟨by kernel_rfl, rfl⟩
instance : SlT Try.prog 26 44 2 32 [.slice none 0 0, .int .i64 0] := ⟨by kernel_rfl, rfl, by decide, rfl⟩
instance : TyOne Try.prog 36 := ⟨by kernel_rfl⟩
instance : TyZ Try.prog 36 [.slice none 0 0] := ⟨by kernel_rfl, rfl⟩
instance : SlT Try.prog 36 66 2 32 [.string ⟨#[]⟩, .string ⟨#[]⟩] := ⟨by kernel_rfl, rfl, by decide, rfl⟩
instance : TyStr Try.prog 37 2 := ⟨by kernel_rfl⟩
instance : Fld Try.prog 37 0 0 := ⟨by kernel_rfl⟩
instance : Fld Try.prog 37 1 1 := ⟨by kernel_rfl⟩
instance : BldT Try.prog 37 [(0, 1), (1, 1)] [.slice none 0 0, .int .i64 0] := ⟨by kernel_rfl, rfl⟩
instance : TyZ Try.prog 37 [.slice none 0 0, .int .i64 0] := ⟨by kernel_rfl, rfl⟩
instance : TyStr Try.prog 38 2 := ⟨by kernel_rfl⟩
instance : Fld Try.prog 38 0 0 := ⟨by kernel_rfl⟩
instance : Fld Try.prog 38 1 1 := ⟨by kernel_rfl⟩
instance : BldT Try.prog 38 [(0, 1), (1, 1)] [.slice none 0 0, .int .i64 0] := ⟨by kernel_rfl, rfl⟩
instance : TyZ Try.prog 38 [.slice none 0 0, .int .i64 0] := ⟨by kernel_rfl, rfl⟩
instance : TyOne Try.prog 42 := ⟨by kernel_rfl⟩
instance : TyZ Try.prog 42 [.slice none 0 0] := ⟨by kernel_rfl, rfl⟩
instance : SlT Try.prog 42 60 2 32 [.string ⟨#[]⟩, .string ⟨#[]⟩] := ⟨by kernel_rfl, rfl, by decide, rfl⟩
instance : TyStr Try.prog 43 2 := ⟨by kernel_rfl⟩
instance : Fld Try.prog 43 0 0 := ⟨by kernel_rfl⟩
instance : Fld Try.prog 43 1 1 := ⟨by kernel_rfl⟩
instance : BldT Try.prog 43 [(0, 1), (1, 1)] [.slice none 0 0, .int .i64 0] := ⟨by kernel_rfl, rfl⟩
instance : TyZ Try.prog 43 [.slice none 0 0, .int .i64 0] := ⟨by kernel_rfl, rfl⟩
instance : TyStr Try.prog 44 2 := ⟨by kernel_rfl⟩
instance : Fld Try.prog 44 0 0 := ⟨by kernel_rfl⟩
instance : Fld Try.prog 44 1 1 := ⟨by kernel_rfl⟩
instance : BldT Try.prog 44 [(0, 1), (1, 1)] [.slice none 0 0, .int .i64 0] := ⟨by kernel_rfl, rfl⟩
instance : TyZ Try.prog 44 [.slice none 0 0, .int .i64 0] := ⟨by kernel_rfl, rfl⟩
instance : TyOne Try.prog 46 := ⟨by kernel_rfl⟩
instance : TyZ Try.prog 46 [.map none] := ⟨by kernel_rfl, rfl⟩
instance : TyStr Try.prog 59 2 := ⟨by kernel_rfl⟩
instance : Fld Try.prog 59 0 0 := ⟨by kernel_rfl⟩
instance : Fld Try.prog 59 1 1 := ⟨by kernel_rfl⟩
instance : EqS Try.prog 59 := ⟨by kernel_rfl⟩
instance : BldT Try.prog 59 [(0, 1), (1, 1)] [.string ⟨#[]⟩, .string ⟨#[]⟩] := ⟨by kernel_rfl, rfl⟩
instance : TyZ Try.prog 59 [.string ⟨#[]⟩, .string ⟨#[]⟩] := ⟨by kernel_rfl, rfl⟩
instance : TyStr Try.prog 60 2 := ⟨by kernel_rfl⟩
instance : Fld Try.prog 60 0 0 := ⟨by kernel_rfl⟩
instance : Fld Try.prog 60 1 1 := ⟨by kernel_rfl⟩
instance : EqS Try.prog 60 := ⟨by kernel_rfl⟩
instance : BldT Try.prog 60 [(0, 1), (1, 1)] [.string ⟨#[]⟩, .string ⟨#[]⟩] := ⟨by kernel_rfl, rfl⟩
instance : TyZ Try.prog 60 [.string ⟨#[]⟩, .string ⟨#[]⟩] := ⟨by kernel_rfl, rfl⟩
instance : TyOne Try.prog 64 := ⟨by kernel_rfl⟩
instance : TyZ Try.prog 64 [.slice none 0 0] := ⟨by kernel_rfl, rfl⟩
instance : SlT Try.prog 64 5 1 1 [.int .u8 0] := ⟨by kernel_rfl, rfl, by decide, rfl⟩
instance : TyStr Try.prog 66 2 := ⟨by kernel_rfl⟩
instance : Fld Try.prog 66 0 0 := ⟨by kernel_rfl⟩
instance : Fld Try.prog 66 1 1 := ⟨by kernel_rfl⟩
instance : EqS Try.prog 66 := ⟨by kernel_rfl⟩
instance : BldT Try.prog 66 [(0, 1), (1, 1)] [.string ⟨#[]⟩, .string ⟨#[]⟩] := ⟨by kernel_rfl, rfl⟩
instance : TyZ Try.prog 66 [.string ⟨#[]⟩, .string ⟨#[]⟩] := ⟨by kernel_rfl, rfl⟩
instance : TyOne Try.prog 73 := ⟨by kernel_rfl⟩
instance : TyZ Try.prog 73 [.pointer none] := ⟨by kernel_rfl, rfl⟩
instance : TyStr Try.prog 74 2 := ⟨by kernel_rfl⟩
instance : Fld Try.prog 74 0 0 := ⟨by kernel_rfl⟩
instance : Fld Try.prog 74 1 1 := ⟨by kernel_rfl⟩
instance : BldT Try.prog 74 [(0, 1), (1, 1)] [.pointer none, .slice none 0 0] := ⟨by kernel_rfl, rfl⟩
instance : TyZ Try.prog 74 [.pointer none, .slice none 0 0] := ⟨by kernel_rfl, rfl⟩
instance : TyStr Try.prog 75 2 := ⟨by kernel_rfl⟩
instance : Fld Try.prog 75 0 0 := ⟨by kernel_rfl⟩
instance : Fld Try.prog 75 1 1 := ⟨by kernel_rfl⟩
instance : BldT Try.prog 75 [(0, 1), (1, 1)] [.pointer none, .slice none 0 0] := ⟨by kernel_rfl, rfl⟩
instance : TyZ Try.prog 75 [.pointer none, .slice none 0 0] := ⟨by kernel_rfl, rfl⟩
instance : TyOne Try.prog 83 := ⟨by kernel_rfl⟩
instance : TyZ Try.prog 83 [.pointer none] := ⟨by kernel_rfl, rfl⟩
instance : TyOne Try.prog 84 := ⟨by kernel_rfl⟩
instance : TyZ Try.prog 84 [.pointer none] := ⟨by kernel_rfl, rfl⟩
instance : TyOne Try.prog 93 := ⟨by kernel_rfl⟩
instance : TyZ Try.prog 93 [.int .u32 0] := ⟨by kernel_rfl, rfl⟩
instance : TyOne Try.prog 94 := ⟨by kernel_rfl⟩
instance : TyZ Try.prog 94 [.int .u8 0] := ⟨by kernel_rfl, rfl⟩
instance : TyOne Try.prog 95 := ⟨by kernel_rfl⟩
instance : TyZ Try.prog 95 [.int .u8 0] := ⟨by kernel_rfl, rfl⟩
instance : TyOne Try.prog 97 := ⟨by kernel_rfl⟩
instance : TyZ Try.prog 97 [.int .i32 0] := ⟨by kernel_rfl, rfl⟩
instance : TyOne Try.prog 98 := ⟨by kernel_rfl⟩
instance : TyZ Try.prog 98 [.int .i32 0] := ⟨by kernel_rfl, rfl⟩
instance : TyStr Try.prog 99 11 := ⟨by kernel_rfl⟩
instance : Fld Try.prog 99 0 0 := ⟨by kernel_rfl⟩
instance : Fld Try.prog 99 1 1 := ⟨by kernel_rfl⟩
instance : Fld Try.prog 99 2 2 := ⟨by kernel_rfl⟩
instance : Fld Try.prog 99 3 3 := ⟨by kernel_rfl⟩
instance : Fld Try.prog 99 4 4 := ⟨by kernel_rfl⟩
instance : Fld Try.prog 99 5 5 := ⟨by kernel_rfl⟩
instance : Fld Try.prog 99 6 6 := ⟨by kernel_rfl⟩
instance : Fld Try.prog 99 7 7 := ⟨by kernel_rfl⟩
instance : Fld Try.prog 99 8 8 := ⟨by kernel_rfl⟩
instance : Fld Try.prog 99 9 9 := ⟨by kernel_rfl⟩
instance : Fld Try.prog 99 10 10 := ⟨by kernel_rfl⟩
instance : BldT Try.prog 99 [(0, 1), (1, 1), (2, 1), (3, 1), (4, 1), (5, 1), (6, 1), (7, 1), (8, 1), (9, 1), (10, 1)] [.int .u64 0, .int .u64 0, .int .u32 0, .int .u8 0, .int .u8 0, .int .u8 0, .int .u8 0, .nilFunc, .pointer none, .int .i32 0, .int .i32 0] := ⟨by kernel_rfl, rfl⟩
instance : TyZ Try.prog 99 [.int .u64 0, .int .u64 0, .int .u32 0, .int .u8 0, .int .u8 0, .int .u8 0, .int .u8 0, .nilFunc, .pointer none, .int .i32 0, .int .i32 0] := ⟨by kernel_rfl, rfl⟩
instance : TyStr Try.prog 100 11 := ⟨by kernel_rfl⟩
instance : Fld Try.prog 100 0 0 := ⟨by kernel_rfl⟩
instance : Fld Try.prog 100 1 1 := ⟨by kernel_rfl⟩
instance : Fld Try.prog 100 2 2 := ⟨by kernel_rfl⟩
instance : Fld Try.prog 100 3 3 := ⟨by kernel_rfl⟩
instance : Fld Try.prog 100 4 4 := ⟨by kernel_rfl⟩
instance : Fld Try.prog 100 5 5 := ⟨by kernel_rfl⟩
instance : Fld Try.prog 100 6 6 := ⟨by kernel_rfl⟩
instance : Fld Try.prog 100 7 7 := ⟨by kernel_rfl⟩
instance : Fld Try.prog 100 8 8 := ⟨by kernel_rfl⟩
instance : Fld Try.prog 100 9 9 := ⟨by kernel_rfl⟩
instance : Fld Try.prog 100 10 10 := ⟨by kernel_rfl⟩
instance : BldT Try.prog 100 [(0, 1), (1, 1), (2, 1), (3, 1), (4, 1), (5, 1), (6, 1), (7, 1), (8, 1), (9, 1), (10, 1)] [.int .u64 0, .int .u64 0, .int .u32 0, .int .u8 0, .int .u8 0, .int .u8 0, .int .u8 0, .nilFunc, .pointer none, .int .i32 0, .int .i32 0] := ⟨by kernel_rfl, rfl⟩
instance : TyZ Try.prog 100 [.int .u64 0, .int .u64 0, .int .u32 0, .int .u8 0, .int .u8 0, .int .u8 0, .int .u8 0, .nilFunc, .pointer none, .int .i32 0, .int .i32 0] := ⟨by kernel_rfl, rfl⟩
instance : CvT Try.prog 2 3 .i64 := ⟨by kernel_rfl, by kernel_rfl⟩
instance : CvT Try.prog 2 5 .u8 := ⟨by kernel_rfl, by kernel_rfl⟩
instance : CvT Try.prog 2 12 .u64 := ⟨by kernel_rfl, by kernel_rfl⟩
instance : CvT Try.prog 2 21 .i32 := ⟨by kernel_rfl, by kernel_rfl⟩
instance : CvT Try.prog 2 93 .u32 := ⟨by kernel_rfl, by kernel_rfl⟩
instance : CvT Try.prog 3 2 .i64 := ⟨by kernel_rfl, by kernel_rfl⟩
instance : CvT Try.prog 3 5 .u8 := ⟨by kernel_rfl, by kernel_rfl⟩
instance : CvT Try.prog 3 12 .u64 := ⟨by kernel_rfl, by kernel_rfl⟩
instance : CvT Try.prog 3 21 .i32 := ⟨by kernel_rfl, by kernel_rfl⟩
instance : CvT Try.prog 3 93 .u32 := ⟨by kernel_rfl, by kernel_rfl⟩
instance : CvT Try.prog 5 2 .i64 := ⟨by kernel_rfl, by kernel_rfl⟩
instance : CvT Try.prog 5 3 .i64 := ⟨by kernel_rfl, by kernel_rfl⟩
instance : CvT Try.prog 5 12 .u64 := ⟨by kernel_rfl, by kernel_rfl⟩
instance : CvT Try.prog 5 21 .i32 := ⟨by kernel_rfl, by kernel_rfl⟩
instance : CvT Try.prog 5 93 .u32 := ⟨by kernel_rfl, by kernel_rfl⟩
instance : CvT Try.prog 12 2 .i64 := ⟨by kernel_rfl, by kernel_rfl⟩
instance : CvT Try.prog 12 3 .i64 := ⟨by kernel_rfl, by kernel_rfl⟩
instance : CvT Try.prog 12 5 .u8 := ⟨by kernel_rfl, by kernel_rfl⟩
instance : CvT Try.prog 12 21 .i32 := ⟨by kernel_rfl, by kernel_rfl⟩
instance : CvT Try.prog 12 93 .u32 := ⟨by kernel_rfl, by kernel_rfl⟩
instance : CvT Try.prog 21 2 .i64 := ⟨by kernel_rfl, by kernel_rfl⟩
instance : CvT Try.prog 21 3 .i64 := ⟨by kernel_rfl, by kernel_rfl⟩
instance : CvT Try.prog 21 5 .u8 := ⟨by kernel_rfl, by kernel_rfl⟩
instance : CvT Try.prog 21 12 .u64 := ⟨by kernel_rfl, by kernel_rfl⟩
instance : CvT Try.prog 21 93 .u32 := ⟨by kernel_rfl, by kernel_rfl⟩
instance : CvT Try.prog 93 2 .i64 := ⟨by kernel_rfl, by kernel_rfl⟩
instance : CvT Try.prog 93 3 .i64 := ⟨by kernel_rfl, by kernel_rfl⟩
instance : CvT Try.prog 93 5 .u8 := ⟨by kernel_rfl, by kernel_rfl⟩
instance : CvT Try.prog 93 12 .u64 := ⟨by kernel_rfl, by kernel_rfl⟩
instance : CvT Try.prog 93 21 .i32 := ⟨by kernel_rfl, by kernel_rfl⟩
theorem mixed : Try.prog.follows .mixedOrders = true := by kernel_rfl
end Go.Proofs.Ytokhfcfnhgianaa
/-
  The data of the statements, as plain lists.
-/
namespace Go.Proofs.Ytokhfcfnhgianaa
open Go.RowKit
set_option linter.unusedVariables false

abbrev cI (n : Int) : CV := .raw (.int .i64 n)
abbrev rI (n : Int) : AR := .one (.c (cI n))
abbrev rB (b : Bool) : AR := .one (.c (.raw (.bool b)))
abbrev rStr (s : List UInt8) : AR := .one (.c (.raw (.string ⟨s.toArray⟩)))
def byR (b : UInt8) : List CV := [.raw (.int .u8 b.toNat)]
def byRs (bs : List UInt8) : List (List CV) := bs.map byR
theorem byRs_len {bs : List UInt8} : (byRs bs).length = bs.length := by simp [byRs]

end Go.Proofs.Ytokhfcfnhgianaa
/-
  Rules for lists of points, numbers, bytes, labels, texts, records, samples. Written by a program of our own.
-/
namespace Go.Proofs.Ytokhfcfnhgianaa
open Go.RowKit
set_option linter.unusedVariables false
set_option linter.unusedSimpArgs false
abbrev Str := List UInt8
abbrev cS (s : Str) : CV := .raw (.string ⟨s.toArray⟩)
abbrev lbR (x : Str × Str) : List CV := [cS x.1, cS x.2]
def lbRs (xs : List (Str × Str)) : List (List CV) := xs.map lbR
abbrev stR (x : Str) : List CV := [cS x]
def stRs (xs : List Str) : List (List CV) := xs.map stR
abbrev smR (x : List (Str × Str) × Int) : List CV := [.sl 2 (lbRs x.1), cI x.2]
def smRs (xs : List (List (Str × Str) × Int)) : List (List CV) := xs.map smR
abbrev slL (xs : List (Str × Str)) : AR := .one (.c (.sl 2 (lbRs xs)))
abbrev slS (xs : List Str) : AR := .one (.c (.sl 1 (stRs xs)))
abbrev slM (xs : List (List (Str × Str) × Int)) : AR := .one (.c (.sl 2 (smRs xs)))
theorem lbRs_flat {xs : List (Str × Str)} : flatRows (lbRs xs) := by
  intro r hr c hc
  obtain ⟨p, _, rfl⟩ := List.mem_map.1 hr
  simp at hc
  rcases hc with rfl | rfl <;> rfl
theorem stRs_flat {xs : List Str} : flatRows (stRs xs) := by
  intro r hr c hc
  obtain ⟨p, _, rfl⟩ := List.mem_map.1 hr
  simp at hc
  subst hc; rfl
section
variable {P : Program} {ops : Array Oper} {cx : Cx} {Q : APost} {rest : List Oper} {l : SL} {m : OL} {n d d1 u : Nat} {x y : Operand} {ty ty1 : TypeId} {pos pos1 : String} {af af1 : Array Edge} {T e bytes : Nat} {zs : List Value}
theorem al_push1 [hT : SlT P T e 1 bytes zs] {rows rows' : List (List CV)} {c : CV} (he : rows ++ [[c]] = rows') (hx : AgL (lk .dead l) [(x, .c c)]) (hy : Ag (lk .dead ((d1, .own n) :: l)) y (.own u)) (ho : lk .gone ((n, .row 1 e [[c]]) :: m) u = .row 1 e rows)
    (hb : Nat.ble bytes 1000 = true) (hd1 : Nat.blt d1 cx.N = true) (hd : Nat.blt d cx.N = true) (hl : rows.length ≤ 1000000000)
    (k : AL P ops cx Q rest ((d, .own (n + 1)) :: (d1, .own n) :: l) ((n + 1, .row 1 e rows') :: (u, .gone) :: (n, .row 1 e [[c]]) :: m) (n + 1 + 1)) :
    AL P ops cx Q (⟨some d1, .buildSlice T 1 #[(0, x)], ty1, pos1, af1, none⟩ :: ⟨some d, .call { callee := .builtin .append, args := #[y, .tmp d1], argTypes := #[T, T] }, ty, pos, af, none⟩ :: rest) l m n := by
  subst he
  have hbytes : (rows.length + 1) * bytes ≤ 140737488355328 := Nat.le_trans (Nat.mul_le_mul_left _ (Nat.le_of_ble_eq_true hb)) (by omega)
  refine al_n (opx_lit1 (hT := hT) (S := lk .dead l) (ps := [(0, x)]) (cs := [c]) (.cons hx.1 (.nil _)) rfl rfl) hx trivial hd1 ?_
  refine al_n (opx_append (hT := hT) (u := u) (n := n + 1) [(n, .row 1 e [[c]])] (rows := rows) (news := [[c]]) (av := .own n) (fun O hO => .inr ⟨e, hO.1⟩) (by simp [maxLen]; omega) (by simpa using hbytes)) ⟨hy, by simp [Ag, vl, lk], trivial⟩ ⟨ho, by simp [lk], trivial⟩ hd ?_
  exact k
theorem al_push2 [hT : SlT P T e 2 bytes zs] {rows rows' : List (List CV)} {a b : CV} (he : rows ++ [[a, b]] = rows') (hx : AgL (lk .dead l) [(x, .agg [.c a, .c b])]) (hy : Ag (lk .dead ((d1, .own n) :: l)) y (.own u)) (ho : lk .gone ((n, .row 2 e [[a, b]]) :: m) u = .row 2 e rows)
    (hb : Nat.ble bytes 1000 = true) (hd1 : Nat.blt d1 cx.N = true) (hd : Nat.blt d cx.N = true) (hl : rows.length ≤ 1000000000)
    (k : AL P ops cx Q rest ((d, .own (n + 1)) :: (d1, .own n) :: l) ((n + 1, .row 2 e rows') :: (u, .gone) :: (n, .row 2 e [[a, b]]) :: m) (n + 1 + 1)) :
    AL P ops cx Q (⟨some d1, .buildSlice T 1 #[(0, x)], ty1, pos1, af1, none⟩ :: ⟨some d, .call { callee := .builtin .append, args := #[y, .tmp d1], argTypes := #[T, T] }, ty, pos, af, none⟩ :: rest) l m n := by
  subst he
  have hbytes : (rows.length + 1) * bytes ≤ 140737488355328 := Nat.le_trans (Nat.mul_le_mul_left _ (Nat.le_of_ble_eq_true hb)) (by omega)
  refine al_n (opx_lits2 (hT := hT) (a := a) (b := b)) hx trivial hd1 ?_
  refine al_n (opx_append (hT := hT) (u := u) (n := n + 1) [(n, .row 2 e [[a, b]])] (rows := rows) (news := [[a, b]]) (av := .own n) (fun O hO => .inr ⟨e, hO.1⟩) (by simp [maxLen]; omega) (by simpa using hbytes)) ⟨hy, by simp [Ag, vl, lk], trivial⟩ ⟨ho, by simp [lk], trivial⟩ hd ?_
  exact k
/-- 'make([]T, 0, c)' -/
theorem al_mk0 {wd : Nat} [hT : SlT P T e wd bytes zs] {c : Int} (hx : Ag (lk .dead l) x (.i 0)) (hy : Ag (lk .dead l) y (.i c)) (hb : Nat.ble bytes 1000 = true) (hd : Nat.blt d cx.N = true) (hc : 0 ≤ c ∧ c ≤ 1000000000)
    (k : AL P ops cx Q rest ((d, .own n) :: l) ((n, .row wd e []) :: m) (n + 1)) :
    AL P ops cx Q (⟨some d, .makeSlice T x y, ty, pos, af, none⟩ :: rest) l m n := by
  obtain ⟨C, rfl⟩ : ∃ C : Nat, c = (C : Int) := ⟨c.toNat, by omega⟩
  have hbytes : bytes * C ≤ 281474976710656 := Nat.le_trans (Nat.mul_le_mul_right _ (Nat.le_of_ble_eq_true hb)) (by omega)
  exact al_n (opx_make (hT := hT) (l := 0) (c := C) rfl rfl (by omega) (by simp [maxLen]; omega) hbytes) ⟨hx, hy, trivial⟩ trivial hd k
/-- 'make([]T, c)' -/
theorem al_mkn {wd : Nat} [hT : SlT P T e wd bytes zs] {c : Int} {rows : List (List CV)} (C : Nat) (hr : List.replicate C (zs.map CV.raw) = rows) (hC : c = (C : Int)) (hx : Ag (lk .dead l) x (.i c)) (hy : Ag (lk .dead l) y (.i c)) (hb : Nat.ble bytes 1000 = true) (hd : Nat.blt d cx.N = true) (hc : C ≤ 1000000000)
    (k : AL P ops cx Q rest ((d, .own n) :: l) ((n, .row wd e rows) :: m) (n + 1)) :
    AL P ops cx Q (⟨some d, .makeSlice T x y, ty, pos, af, none⟩ :: rest) l m n := by
  subst hC hr
  have hbytes : bytes * C ≤ 281474976710656 := Nat.le_trans (Nat.mul_le_mul_right _ (Nat.le_of_ble_eq_true hb)) (by omega)
  exact al_n (opx_make (hT := hT) (l := C) (c := C) rfl rfl (by omega) (by simp [maxLen]; omega) hbytes) ⟨hx, hy, trivial⟩ trivial hd k

theorem lbRs_len {xs : List (Str × Str)} : (lbRs xs).length = xs.length := by simp [lbRs]
theorem lbRs_at {xs : List (Str × Str)} {k : Nat} {x : Str × Str} (h : xs[k]? = some x) : (lbRs xs)[k]? = some (lbR x) := by simp [lbRs, h]
theorem lbRs_cat {xs ys : List (Str × Str)} : lbRs xs ++ lbRs ys = lbRs (xs ++ ys) := by simp [lbRs]
theorem lbRs_set {xs : List (Str × Str)} {k : Nat} {x : Str × Str} : (lbRs xs).set k (lbR x) = lbRs (xs.set k x) := by simp [lbRs, List.map_set]
theorem al_pushL [hT : SlT P T e 2 bytes zs] {xs : List (Str × Str)} {a b : Str} (hx : AgL (lk .dead l) [(x, .agg [.c (cS a), .c (cS b)])]) (hy : Ag (lk .dead ((d1, .own n) :: l)) y (.own u)) (ho : lk .gone ((n, .row 2 e [[cS a, cS b]]) :: m) u = .row 2 e (lbRs xs))
    (hb : Nat.ble bytes 1000 = true) (hd1 : Nat.blt d1 cx.N = true) (hd : Nat.blt d cx.N = true) (hl : xs.length ≤ 1000000000)
    (k : AL P ops cx Q rest ((d, .own (n + 1)) :: (d1, .own n) :: l) ((n + 1, .row 2 e (lbRs (xs ++ [(a, b)]))) :: (u, .gone) :: (n, .row 2 e [[cS a, cS b]]) :: m) (n + 1 + 1)) :
    AL P ops cx Q (⟨some d1, .buildSlice T 1 #[(0, x)], ty1, pos1, af1, none⟩ :: ⟨some d, .call { callee := .builtin .append, args := #[y, .tmp d1], argTypes := #[T, T] }, ty, pos, af, none⟩ :: rest) l m n :=
  al_push2 (by rw [← lbRs_cat]; rfl) hx hy ho hb hd1 hd (by simpa [lbRs] using hl) k
theorem stRs_len {xs : List (Str)} : (stRs xs).length = xs.length := by simp [stRs]
theorem stRs_at {xs : List (Str)} {k : Nat} {x : Str} (h : xs[k]? = some x) : (stRs xs)[k]? = some (stR x) := by simp [stRs, h]
theorem stRs_cat {xs ys : List (Str)} : stRs xs ++ stRs ys = stRs (xs ++ ys) := by simp [stRs]
theorem stRs_set {xs : List (Str)} {k : Nat} {x : Str} : (stRs xs).set k (stR x) = stRs (xs.set k x) := by simp [stRs, List.map_set]
theorem al_pushS [hT : SlT P T e 1 bytes zs] {xs : List (Str)} {a : Str} (hx : AgL (lk .dead l) [(x, .str a)]) (hy : Ag (lk .dead ((d1, .own n) :: l)) y (.own u)) (ho : lk .gone ((n, .row 1 e [[cS a]]) :: m) u = .row 1 e (stRs xs))
    (hb : Nat.ble bytes 1000 = true) (hd1 : Nat.blt d1 cx.N = true) (hd : Nat.blt d cx.N = true) (hl : xs.length ≤ 1000000000)
    (k : AL P ops cx Q rest ((d, .own (n + 1)) :: (d1, .own n) :: l) ((n + 1, .row 1 e (stRs (xs ++ [a]))) :: (u, .gone) :: (n, .row 1 e [[cS a]]) :: m) (n + 1 + 1)) :
    AL P ops cx Q (⟨some d1, .buildSlice T 1 #[(0, x)], ty1, pos1, af1, none⟩ :: ⟨some d, .call { callee := .builtin .append, args := #[y, .tmp d1], argTypes := #[T, T] }, ty, pos, af, none⟩ :: rest) l m n :=
  al_push1 (by rw [← stRs_cat]; rfl) hx hy ho hb hd1 hd (by simpa [stRs] using hl) k
theorem smRs_len {xs : List (List (Str × Str) × Int)} : (smRs xs).length = xs.length := by simp [smRs]
theorem smRs_at {xs : List (List (Str × Str) × Int)} {k : Nat} {x : List (Str × Str) × Int} (h : xs[k]? = some x) : (smRs xs)[k]? = some (smR x) := by simp [smRs, h]
theorem smRs_cat {xs ys : List (List (Str × Str) × Int)} : smRs xs ++ smRs ys = smRs (xs ++ ys) := by simp [smRs]
theorem smRs_set {xs : List (List (Str × Str) × Int)} {k : Nat} {x : List (Str × Str) × Int} : (smRs xs).set k (smR x) = smRs (xs.set k x) := by simp [smRs, List.map_set]
theorem al_pushM [hT : SlT P T e 2 bytes zs] {xs : List (List (Str × Str) × Int)} {a : List (Str × Str)} {b : Int} (hx : AgL (lk .dead l) [(x, .agg [.c (.sl 2 (lbRs a)), .c (cI b)])]) (hy : Ag (lk .dead ((d1, .own n) :: l)) y (.own u)) (ho : lk .gone ((n, .row 2 e [[.sl 2 (lbRs a), cI b]]) :: m) u = .row 2 e (smRs xs))
    (hb : Nat.ble bytes 1000 = true) (hd1 : Nat.blt d1 cx.N = true) (hd : Nat.blt d cx.N = true) (hl : xs.length ≤ 1000000000)
    (k : AL P ops cx Q rest ((d, .own (n + 1)) :: (d1, .own n) :: l) ((n + 1, .row 2 e (smRs (xs ++ [(a, b)]))) :: (u, .gone) :: (n, .row 2 e [[.sl 2 (lbRs a), cI b]]) :: m) (n + 1 + 1)) :
    AL P ops cx Q (⟨some d1, .buildSlice T 1 #[(0, x)], ty1, pos1, af1, none⟩ :: ⟨some d, .call { callee := .builtin .append, args := #[y, .tmp d1], argTypes := #[T, T] }, ty, pos, af, none⟩ :: rest) l m n :=
  al_push2 (by rw [← smRs_cat]; rfl) hx hy ho hb hd1 hd (by simpa [smRs] using hl) k
theorem al_stL {t : TypeId} [hT : TyStr P t 2] {xs : List (Str × Str)} {i : Nat} {a b : Str} (hx : Ag (lk .dead l) x (.el u 2 i 0)) (hy : Ag (lk .dead l) y (.agg [.c (cS a), .c (cS b)])) (ho : lk .gone m u = .row 2 e (lbRs xs)) (hi : i < xs.length)
    (k : AL P ops cx Q rest l ((u, .row 2 e (lbRs (xs.set i (a, b)))) :: m) n) : AL P ops cx Q (⟨none, .store t x y, ty, pos, af, none⟩ :: rest) l m n := by
  rw [← lbRs_set] at k
  exact al_s (opx_sts_el (rows := lbRs xs) (row := lbR (a, b)) rfl rfl (by rw [lbRs_len]; exact hi)) ⟨hx, hy, trivial⟩ ⟨ho, trivial⟩ k
theorem al_stL0 {t : TypeId} [hT : TyOne P t] {xs : List (Str × Str)} {i : Nat} {a : Str} {p : Str × Str} (hx : Ag (lk .dead l) x (.el u 2 i 0)) (hy : Ag (lk .dead l) y (.c (cS a))) (ho : lk .gone m u = .row 2 e (lbRs xs)) (hi : xs[i]? = some p)
    (k : AL P ops cx Q rest l ((u, .row 2 e (lbRs (xs.set i (a, p.2)))) :: m) n) : AL P ops cx Q (⟨none, .store t x y, ty, pos, af, none⟩ :: rest) l m n := by
  rw [← lbRs_set] at k
  exact al_s (opx_st1_el (rows := lbRs xs) (row := lbR p) (lbRs_at hi) (by omega)) ⟨hx, hy, trivial⟩ ⟨ho, trivial⟩ k
theorem al_stL1 {t : TypeId} [hT : TyOne P t] {xs : List (Str × Str)} {i : Nat} {a : Str} {p : Str × Str} (hx : Ag (lk .dead l) x (.el u 2 i 1)) (hy : Ag (lk .dead l) y (.c (cS a))) (ho : lk .gone m u = .row 2 e (lbRs xs)) (hi : xs[i]? = some p)
    (k : AL P ops cx Q rest l ((u, .row 2 e (lbRs (xs.set i (p.1, a)))) :: m) n) : AL P ops cx Q (⟨none, .store t x y, ty, pos, af, none⟩ :: rest) l m n := by
  rw [← lbRs_set] at k
  exact al_s (opx_st1_el (rows := lbRs xs) (row := lbR p) (lbRs_at hi) (by omega)) ⟨hx, hy, trivial⟩ ⟨ho, trivial⟩ k
theorem al_stS {t : TypeId} [hT : TyOne P t] {xs : List (Str)} {i : Nat} {a : Str} {p : Str} (hx : Ag (lk .dead l) x (.el u 1 i 0)) (hy : Ag (lk .dead l) y (.str a)) (ho : lk .gone m u = .row 1 e (stRs xs)) (hi : xs[i]? = some p)
    (k : AL P ops cx Q rest l ((u, .row 1 e (stRs (xs.set i a))) :: m) n) : AL P ops cx Q (⟨none, .store t x y, ty, pos, af, none⟩ :: rest) l m n := by
  have e1 : (stRs xs).set i ((stR p).set 0 (cS a)) = stRs (xs.set i a) := stRs_set
  rw [← e1] at k
  exact al_s (opx_st1_el (rows := stRs xs) (row := stR p) (stRs_at hi) (by omega)) ⟨hx, hy, trivial⟩ ⟨ho, trivial⟩ k
theorem al_stM1 {t : TypeId} [hT : TyOne P t] {xs : List (List (Str × Str) × Int)} {i : Nat} {a : Int} {p : List (Str × Str) × Int} (hx : Ag (lk .dead l) x (.el u 2 i 1)) (hy : Ag (lk .dead l) y (.c (cI a))) (ho : lk .gone m u = .row 2 e (smRs xs)) (hi : xs[i]? = some p)
    (k : AL P ops cx Q rest l ((u, .row 2 e (smRs (xs.set i (p.1, a)))) :: m) n) : AL P ops cx Q (⟨none, .store t x y, ty, pos, af, none⟩ :: rest) l m n := by
  rw [← smRs_set] at k
  exact al_s (opx_st1_el (rows := smRs xs) (row := smR p) (smRs_at hi) (by omega)) ⟨hx, hy, trivial⟩ ⟨ho, trivial⟩ k
end
end Go.Proofs.Ytokhfcfnhgianaa
/-
  Calls of the reader's functions whose answers are values; ends.
-/
namespace Go.Proofs.Ytokhfcfnhgianaa
open Go.RowKit
set_option linter.unusedVariables false
set_option linter.unusedSimpArgs false
theorem eqD {α : Type} [DecidableEq α] (x : α) : decide (x = x) = true := by simp
theorem neD {α : Type} [DecidableEq α] (x : α) : (!decide (x = x)) = false := by simp
end Go.Proofs.Ytokhfcfnhgianaa
/-
  Labels and their texts: the plain law.
-/
namespace Go.Proofs.Ytokhfcfnhgianaa
set_option linter.unusedVariables false
set_option linter.unusedSimpArgs false

abbrev Lb := Str × Str
/-- A word. -/
def lowB (c : UInt8) : Prop := 97 ≤ c.toNat ∧ c.toNat ≤ 122
instance (c : UInt8) : Decidable (lowB c) := by unfold lowB; infer_instance
def vw (s : Str) : Prop := 1 ≤ s.length ∧ s.length ≤ 4 ∧ ∀ c ∈ s, lowB c
instance (s : Str) : Decidable (vw s) := by unfold vw; infer_instance
/-- One label behind another. -/
def lbOk (l : List Lb) (k : Nat) : Prop := ∀ x, l[k]? = some x → vw x.1 ∧ vw x.2 ∧ ∀ y, 0 < k → l[k - 1]? = some y → sle x.1 y.1 = false
def VL (l : List Lb) : Prop := l.length ≤ 4 ∧ ∀ k, lbOk l k
open Classical in
noncomputable def vlB (l : List Lb) : Bool := decide (VL l)
open Classical in
theorem vlB_t {l : List Lb} (h : VL l) : vlB l = true := by unfold vlB; exact decide_eq_true h
open Classical in
theorem vlB_f {l : List Lb} (h : ¬ VL l) : vlB l = false := by unfold vlB; exact decide_eq_false h
open Classical in
theorem vlB_of {l : List Lb} (h : vlB l = true) : VL l := by unfold vlB at h; exact of_decide_eq_true h
theorem VL_mem {l : List Lb} (h : VL l) {x : Lb} (hx : x ∈ l) : vw x.1 ∧ vw x.2 := by
  obtain ⟨k, hk⟩ := List.mem_iff_getElem?.1 hx
  exact ⟨(h.2 k x hk).1, (h.2 k x hk).2.1⟩
theorem low_ne {c : UInt8} (h : lowB c) {d : UInt8} (hd : d.toNat < 97 ∨ 122 < d.toNat) : c ≠ d := by
  rintro rfl; unfold lowB at h; omega
theorem vw_not {s : Str} (h : vw s) {d : UInt8} (hd : d.toNat < 97 ∨ 122 < d.toNat) : d ∉ s := fun hm => low_ne (h.2.2 d hm) hd rfl

def jn (c : UInt8) : List Str → Str
  | [] => []
  | [x] => x
  | x :: y :: r => x ++ c :: jn c (y :: r)
theorem jn_cons {c : UInt8} {x : Str} {r : List Str} (h : r ≠ []) : jn c (x :: r) = x ++ c :: jn c r := by
  cases r with
  | nil => exact absurd rfl h
  | cons y r => rfl
def spl (c : UInt8) : Str → List Str
  | [] => [[]]
  | a :: r => if a = c then [] :: spl c r else match spl c r with
    | p :: ps => (a :: p) :: ps
    | [] => [[a]]
theorem spl_none {c : UInt8} : ∀ {s : Str}, c ∉ s → spl c s = [s]
  | [], _ => rfl
  | a :: r, h => by
    have h1 : a ≠ c := fun e => h (e ▸ .head _)
    have h2 := spl_none (c := c) (s := r) (fun hm => h (.tail _ hm))
    simp only [spl, if_neg h1, h2]
theorem spl_cut {c : UInt8} : ∀ {x r : Str}, c ∉ x → spl c (x ++ c :: r) = x :: spl c r
  | [], r, _ => by simp [spl]
  | a :: x, r, h => by
    have h1 : a ≠ c := fun e => h (e ▸ .head _)
    have h2 := spl_cut (c := c) (x := x) (r := r) (fun hm => h (.tail _ hm))
    simp only [List.cons_append, spl, if_neg h1, h2]
theorem spl_jn {c : UInt8} : ∀ {l : List Str}, l ≠ [] → (∀ p ∈ l, c ∉ p) → spl c (jn c l) = l
  | [], h, _ => absurd rfl h
  | [x], _, h => spl_none (h x (.head _))
  | x :: y :: r, _, h => by
    rw [jn_cons (by simp), spl_cut (h x (.head _)), spl_jn (by simp) (fun p hp => h p (.tail _ hp))]
def eqt (x : Lb) : Str := x.1 ++ 61 :: x.2
def txt (l : List Lb) : Str := 123 :: (jn 44 (l.map eqt) ++ [125])
theorem eqt_comma {x : Lb} (h1 : vw x.1) (h2 : vw x.2) : (44 : UInt8) ∉ eqt x := by
  intro h
  rcases List.mem_append.1 h with h | h
  · exact vw_not h1 (by decide) h
  · rcases List.mem_cons.1 h with h | h
    · exact absurd h (by decide)
    · exact vw_not h2 (by decide) h
theorem spl_txt {l : List Lb} (h : VL l) (hn : l ≠ []) : spl 44 (jn 44 (l.map eqt)) = l.map eqt :=
  spl_jn (by simpa using hn) fun p hp => by
    obtain ⟨x, hx, rfl⟩ := List.mem_map.1 hp
    obtain ⟨h1, h2⟩ := VL_mem h hx
    exact eqt_comma h1 h2
theorem cut_eq {a b x y : Str} (ha : (61 : UInt8) ∉ a) (hx : (61 : UInt8) ∉ x) (h : a ++ 61 :: b = x ++ 61 :: y) : a = x ∧ b = y := by
  induction a generalizing x with
  | nil =>
    cases x with
    | nil => simp at h; exact ⟨rfl, h⟩
    | cons c x => simp at h; exact absurd (h.1 ▸ .head _) hx
  | cons c a ih =>
    cases x with
    | nil => simp at h; exact absurd (h.1 ▸ .head _) ha
    | cons d x =>
      simp at h
      obtain ⟨h1, h2⟩ := ih (fun hm => ha (.tail _ hm)) (fun hm => hx (.tail _ hm)) h.2
      exact ⟨by rw [h.1, h1], h2⟩
theorem eqts_inj : ∀ {l m : List Lb}, (∀ x ∈ l, (61 : UInt8) ∉ x.1) → (∀ x ∈ m, (61 : UInt8) ∉ x.1) → l.map eqt = m.map eqt → l = m
  | [], [], _, _, _ => rfl
  | [], _ :: _, _, _, h => by cases h
  | _ :: _, [], _, _, h => by cases h
  | x :: l, y :: m, h1, h2, h => by
    simp only [List.map_cons, List.cons.injEq] at h
    obtain ⟨h3, h4⟩ := cut_eq (h1 x (.head _)) (h2 y (.head _)) h.1
    rw [eqts_inj (fun z hz => h1 z (.tail _ hz)) (fun z hz => h2 z (.tail _ hz)) h.2]
    exact congrArg (· :: m) (Prod.ext h3 h4)
theorem VL_eq {l : List Lb} (h : VL l) : ∀ x ∈ l, (61 : UInt8) ∉ x.1 := fun x hx => vw_not (VL_mem h hx).1 (by decide)
/-- What lies between the braces. -/
def ins (s : Str) : Str := (s.take (s.length - 1)).drop 1
theorem ins_txt {l : List Lb} : ins (txt l) = jn 44 (l.map eqt) := by
  unfold ins txt
  rw [List.length_cons, List.length_append, List.length_singleton, Nat.add_sub_cancel, List.take_succ_cons, List.drop_succ_cons, List.drop_zero, List.take_left']
  rfl
/-- The labels with a text. -/
def IsT (s : Str) (l : List Lb) : Prop := VL l ∧ txt l = s
theorem jn_eqt_nil {l : List Lb} (h : jn 44 (l.map eqt) = []) : l = [] := by
  match l with
  | [] => rfl
  | [x] => simp [jn, eqt] at h
  | x :: y :: r => simp [jn, eqt] at h
theorem IsT_inj {s : Str} {l m : List Lb} (h1 : IsT s l) (h2 : IsT s m) : l = m := by
  obtain ⟨a1, a2⟩ := h1
  obtain ⟨b1, b2⟩ := h2
  have e : jn 44 (l.map eqt) = jn 44 (m.map eqt) := by rw [← ins_txt, ← ins_txt, a2, b2]
  by_cases hl : l = []
  · subst hl
    exact (jn_eqt_nil (e.symm.trans rfl)).symm
  · by_cases hm : m = []
    · subst hm
      exact jn_eqt_nil (e.trans rfl)
    · have e2 := congrArg (spl 44) e
      rw [spl_txt a1 hl, spl_txt b1 hm] at e2
      exact eqts_inj (VL_eq a1) (VL_eq b1) e2
end Go.Proofs.Ytokhfcfnhgianaa
