/- Texts: Eng14 Eng16 Eng17 Inst -/
import Derived.Test.YtfoecgfboicphaaGreatDoorCL6
import Derived.Test.YtfoecgfboicphaaGreatDoorRows
/-
  Contracts whose own slices are written no more.
-/
namespace Go.Proofs.YtfoecgfboicphaaGreatDoor
open Go.RowKit
set_option linter.unusedVariables false
set_option linter.unusedSimpArgs false

theorem DO.rowdc {ρ : Nat → Value} {Z Zc : Nat → Prop} {w : World} {t wd : Nat} {e : TypeId} {rows : List (List CV)} (ho : DO ρ Z w t (.row wd e rows)) (hZ : ∀ g, Z g → Zc g) (hR : ∀ g, blk (ρ t) = some g → Zc g) : DC Zc w (.sl wd rows) (ρ t) := by
  obtain ⟨h1, us, h2, h3⟩ := do_row.1 ho
  rcases h3 with ⟨h4, h5, rfl⟩ | ⟨g, off, cap, cur, h4, h5, h6, h7, h8, h9, h10⟩
  · have : rows = [] := List.eq_nil_of_length_eq_zero h5
    subst this
    rw [h4]; exact .nil wd none 0 (Nat.zero_le _)
  · have h2' : DL Zc w rows.flatten us := h2.mono hZ (Same.refl _ _)
    have hzg : Zc g := hR g (by rw [h4]; rfl)
    rw [h4]
    refine .sl wd rows g off _ cap us rfl h1 hzg h6 h7 h2'.len (fun k u hu => ?_) (fun k hk hk' => h2'.at k hk hk')
    rw [World.cell?, h5]
    simpa using h10 k u hu

theorem DO.rowlt {ρ : Nat → Value} {Z : Nat → Prop} {w : World} {t wd g : Nat} {e : TypeId} {rows : List (List CV)} (ho : DO ρ Z w t (.row wd e rows)) (hb : blk (ρ t) = some g) : g < w.heap.size := by
  obtain ⟨h1, us, h2, h3⟩ := do_row.1 ho
  rcases h3 with ⟨h4, h5, rfl⟩ | ⟨g', off, cap, cur, h4, h5, h6, h7, h8, h9, h10⟩
  · rw [h4] at hb; cases hb
  · rw [h4] at hb
    cases hb
    rcases Nat.lt_or_ge g' w.heap.size with h | h
    · exact h
    · rw [Array.getElem?_eq_none h] at h5; cases h5

/-- An own slice as a value. -/
def fz (all : List OB) : AR → AR
  | .one (.own t) => match obAt all t with
    | .row wd _ rows => .one (.c (.sl wd rows))
    | _ => .one (.own t)
  | r => r
def isRow : OB → Prop
  | .row _ _ _ => True
  | _ => False

theorem fz_dr {ρ : Nat → Value} {Z Zc : Nat → Prop} {w : World} {all : List OB} (ho : ∀ i, DO ρ Z w i (obAt all i)) (hZ : ∀ g, Z g → Zc g) (hR : ∀ i g, isRow (obAt all i) → blk (ρ i) = some g → Zc g)
    {r : AR} {v : Value} (h : DR ρ Z w r v) : DR ρ Zc w (fz all r) v := by
  have hdef : DR ρ Zc w r v := DR.mono hZ (Same.refl _ _) (fun _ _ => rfl) h
  unfold fz
  split
  · rename_i t
    split
    · rename_i wd e rows he
      have h1 := ho t
      rw [he] at h1
      have h2 : v = ρ t := h.1
      show DC Zc w _ v
      rw [h2]
      exact h1.rowdc hZ fun g hg => hR t g (by rw [he]; trivial) hg
    · exact hdef
  · exact hdef
theorem fz_drl {ρ : Nat → Value} {Z Zc : Nat → Prop} {w : World} {all : List OB} (ho : ∀ i, DO ρ Z w i (obAt all i)) (hZ : ∀ g, Z g → Zc g) (hR : ∀ i g, isRow (obAt all i) → blk (ρ i) = some g → Zc g) :
    ∀ {rs : List AR} {us : List Value}, DRL ρ Z w rs us → DRL ρ Zc w (rs.map (fz all)) us
  | [], [], _ => trivial
  | [], _ :: _, h => h.elim
  | _ :: _, [], h => h.elim
  | _ :: _, _ :: _, h => ⟨fz_dr ho hZ hR h.1, fz_drl ho hZ hR h.2⟩

theorem Con.froz {P : Program} {f : FuncId} {args : List AR} {Post Post' : List AR → List OB → Prop} (h : Con P f args [] Post)
    (hp : ∀ rs all, Post rs all → Post' (rs.map (fz all)) [] ∧ ((rs.map (fz all)).all fun r => r.tags.isEmpty) = true) : Con P f args [] Post' :=
  ⟨h.ok, fun w ρ Z vs he => (h.run w ρ Z vs he).mono fun e w' ⟨rs, all, us, ρ', Z', h1, h2, h3, h4⟩ => by
    obtain ⟨hp1, hp2⟩ := hp rs all h1
    refine ⟨rs.map (fz all), [], us, ρ', fun g => Z' g ∨ ∃ i, isRow (obAt all i) ∧ blk (ρ' i) = some g, hp1, Nat.le_refl _, h3, ?_⟩
    have hlive : ∀ i, isRow (obAt all i) → (obAt all i).live = true := fun i hi => by
      revert hi
      cases obAt all i <;> intro hi <;> first | rfl | exact hi.elim
    refine ⟨fz_drl h4.objs (fun _ h => .inl h) (fun i g hi hg => .inr ⟨i, hi, hg⟩) h4.res, fun i => trivial, fun i hi => absurd hi (Nat.not_lt_zero _), fun i j g hi => (by cases hi), fun i g hi => (by cases hi), fun g hg => .inl (h4.zmono g hg), fun g hg => ?_, fun g hg => ?_, ⟨?_, rfl⟩, h4.os, h4.tape, h4.output, h4.size, h4.old⟩
    · rcases hg with hg | ⟨i, hi, hg⟩
      · exact h4.znew g hg
      · exact .inr (h4.out i g (hlive i hi) hg).2
    · rcases hg with hg | ⟨i, hi, hg⟩
      · exact h4.zlt g hg
      · have := h4.objs i
        revert hi this
        cases hob : obAt all i <;> intro hi this <;> first | exact hi.elim | exact this.rowlt hg
    · rw [List.all_eq_true] at hp2 ⊢
      intro r hr
      have := hp2 r hr
      rw [List.isEmpty_iff] at this
      rw [this]; rfl⟩

section
variable {P : Program} {ops : Array Oper} {cx : Cx} {Q : APost} {rest : List Oper} {l : SL} {m : OL} {n d : Nat} {ty : TypeId} {pos : String} {af : Array Edge} {f : FuncId} {xs : List Operand} {ats : Array TypeId} {args rs0 : List AR}
def noTags (rs : List AR) : Bool := rs.all fun r => r.tags.isEmpty
theorem noTags_sub {rs : List AR} (h : noTags rs = true) (f : Nat → Nat) : rs.map (·.sub f) = rs := by
  induction rs with
  | nil => rfl
  | cons r rs ih =>
    simp only [noTags, List.all_cons, Bool.and_eq_true] at h
    rw [List.map_cons, ih h.2]
    have h1 := h.1
    rw [List.isEmpty_iff] at h1
    congr 1
    cases r with
    | one x => cases x with
      | fn g r caps => cases r with
        | none => rfl
        | some p => simp [AR.tags, A1.tag] at h1
      | _ => first | rfl | (simp [AR.tags, A1.tag] at h1)
    | agg xs =>
      simp only [AR.tags, List.flatMap_eq_nil_iff] at h1
      simp only [AR.sub, AR.agg.injEq]
      refine (List.map_congr_left fun x hx => ?_).trans (List.map_id _)
      have := h1 x hx
      cases x with
      | fn g r caps => cases r with
        | none => rfl
        | some p => simp [A1.tag] at this
      | _ => first | rfl | (simp [A1.tag] at this)
/-- a call that hands out no object -/
theorem al_callE {γ : Type} {rs : γ → List AR} {Φ : γ → Prop} (ha : Args (lk .dead l) (lk .gone m) (cpi [] n) false xs args) (hd : Nat.blt d cx.N = true) (hc : Con P f args [] (fun r all => ∃ g, r = rs g ∧ all = [] ∧ noTags r = true ∧ Φ g))
    (k : ∀ g, Φ g → AL P ops cx Q rest ((d, mkRes (rs g)) :: l) m n) :
    AL P ops cx Q (⟨some d, .call { callee := .value (.func f), args := xs.toArray, argTypes := ats }, ty, pos, af, none⟩ :: rest) l m n :=
  al_call hc ha hd fun r all ⟨g, h1, h2, h3, h4⟩ => by
    subst h1 h2
    rw [noTags_sub h3]
    exact k g h4
theorem al_callF {rs : List AR} (ha : Args (lk .dead l) (lk .gone m) (cpi [] n) false xs args) (hd : Nat.blt d cx.N = true) (hc : Con P f args [] (fun r all => r = rs ∧ all = [])) (ht : noTags rs = true)
    (k : AL P ops cx Q rest ((d, mkRes rs) :: l) m n) :
    AL P ops cx Q (⟨some d, .call { callee := .value (.func f), args := xs.toArray, argTypes := ats }, ty, pos, af, none⟩ :: rest) l m n :=
  al_call hc ha hd fun r all ⟨h1, h2⟩ => by
    subst h1 h2
    rw [noTags_sub ht]
    exact k
end
section
variable {P : Program} {vars : List ResultVar} {Post : List AR → List OB → Prop} {e : Exit} {l : SL} {m : OL} {n t u : Nat}
theorem ret_ref {ob : OB} (he : isEnd e) (h : lk .dead l t = .ref u 0) (ho : lk .gone m u = ob.sub (perm [u])) (ht : resTags [.one (.ref 0 0)] [ob] = true) (hp : Post [.one (.ref 0 0)] [ob]) : RetG P [.tmp t] 0 Post e l m n :=
  retg_mk he [_] [_] [u] hp (Nat.zero_le _) (by simp [nodupB]) rfl rfl ht ⟨h, trivial⟩ ⟨ho, trivial⟩
end
end Go.Proofs.YtfoecgfboicphaaGreatDoor
/-
  Function values; variables that are captured; more rules.
-/
namespace Go.Proofs.YtfoecgfboicphaaGreatDoor
open Go.RowKit
set_option linter.unusedVariables false
set_option linter.unusedSimpArgs false

/-- An object that nobody writes any more: its block joins the zone. -/
theorem Good.retire {cx : Cx} {S : Nat → AV} {O : Nat → OB} {V : Nat → Prop} {a : Act} {w : World} {ρ : Nat → Value} {Z : Nat → Prop} (h : Good cx S O V a w ρ Z) {t : Nat} (hl : (O t).live = true) :
    Good cx S (lkf O [(t, .gone)]) V a w ρ (fun g => Z g ∨ blk (ρ t) = some g) := by
  refine ⟨h.size, h.defers, fun s => DA.mono (fun _ hz => .inl hz) (Same.refl _ _) (fun _ _ => rfl) (h.slot s), fun s => ?_, fun s s' g h1 h2 h3 h4 => ?_, fun s g h1 h2 => ?_, fun g hz => hz.elim (h.zlt g) (h.lt hl), fun s hs => ?_, h.os, h.tape, h.output, h.big, h.old, h.pin, h.vlo, ⟨fun g hz => .inl (h.zin.1 g hz), h.zin.2⟩, fun g hz => hz.elim (h.zout g) (fun hb => .inr (h.out t g hl hb).2)⟩
  · rw [lkf_one]
    split
    · trivial
    · exact DO.mono (fun _ hz => .inl hz) (Same.refl _ _) rfl (fun _ _ => rfl) (fun _ _ _ => rfl) (h.obj s)
  · have live_of : ∀ s, (lkf O [(t, .gone)] s).live = true → (O s).live = true := fun s hs => by
      rw [lkf_one] at hs
      split at hs
      · cases hs
      · exact hs
    exact h.sep s s' g (live_of s h1) (live_of s' h2) h3 h4
  · rw [lkf_one] at h1
    split at h1
    · cases h1
    · rename_i e
      refine ⟨fun hz => ?_, (h.out s g h1 h2).2⟩
      rcases hz with hz | hz
      · exact (h.out s g h1 h2).1 hz
      · exact e (h.sep s t g h1 hl h2 hz)
  · obtain ⟨h1, h2, h3⟩ := h.virgin s hs
    have hne : s ≠ t := fun e => by subst e; rw [h1] at hl; cases hl
    refine ⟨by rw [lkf_one, if_neg hne]; exact h1, h2, fun s' => ?_⟩
    rw [lkf_one]
    split
    · exact fun hm => by cases hm
    · exact h3 s'
/-- A slot is seen anew. -/
theorem Good.see {cx : Cx} {S : Nat → AV} {O : Nat → OB} {V : Nat → Prop} {a : Act} {w : World} {ρ : Nat → Value} {Z : Nat → Prop} (hg : Good cx S O V a w ρ Z) (s : Nat) {x : AV} (hx : DA ρ Z w x (a.tmps.getD s undef)) (ht : x.tags = []) :
    Good cx (lkf S [(s, x)]) O V a w ρ Z := by
  refine ⟨hg.size, hg.defers, fun t => ?_, hg.obj, hg.sep, hg.out, hg.zlt, fun t ht' => ?_, hg.os, hg.tape, hg.output, hg.big, hg.old, hg.pin, hg.vlo, hg.zin, hg.zout⟩
  · rw [lkf_one]
    split
    · rename_i e; subst e; exact hx
    · exact hg.slot t
  · obtain ⟨a1, a2, a3⟩ := hg.virgin t ht'
    refine ⟨a1, fun s' => ?_, a3⟩
    rw [lkf_one]
    split
    · rw [ht]; exact fun h => by cases h
    · exact a2 s'
section
variable {cx : Cx} {l : SL} {m : OL} {n : Nat}
/-- A variable of one cell that is written no more. -/
theorem le_retire (s t : Nat) {e : TypeId} {c : CV} (h : lk .dead l s = .ref t 0) (ho : lk .gone m t = .box e [.c c]) : Le cx l m n ((s, .imm [c]) :: l) ((t, .gone) :: m) n := by
  rintro a w ⟨ρ, Z, hg⟩
  have hl : (lk OB.gone m t).live = true := by rw [ho]; rfl
  have h1 := hg.retire hl
  have hob := hg.obj t
  rw [ho] at hob
  obtain ⟨g, us, h2, h3, h4⟩ := hob
  have hs := hg.slot s
  rw [h] at hs
  obtain ⟨g', o', h5, h6⟩ := hs
  rw [h2] at h5
  cases h5
  have hx : DA ρ (fun g => Z g ∨ blk (ρ t) = some g) w (.imm [c]) (a.tmps.getD s undef) := by
    obtain ⟨Z', hZ'⟩ : ∃ Z', Z' = fun g => Z g ∨ blk (ρ t) = some g := ⟨_, rfl⟩
    rw [← hZ']
    cases us with
    | nil => exact h4.elim
    | cons u us =>
      cases us with
      | cons _ _ => exact h4.2.elim
      | nil =>
        refine ⟨g, 0, [u], h6, by rw [hZ']; exact .inr (by rw [h2]; rfl), ⟨DC.mono (fun _ hz => by rw [hZ']; exact .inl hz) (Same.refl _ _) h4.1, trivial⟩, fun k v hk => ?_⟩
        cases k with
        | zero => rw [World.cell?, h3]; simpa using hk
        | succ k => simp at hk
  exact ⟨ρ, _, h1.see s hx rfl⟩
end

section
variable {P : Program} {R : List (Operand × AV)} {RO : List (Nat × OB)}
variable {d : Nat} {x y z : Operand} {t t' ty : TypeId} {pos : String} {af : Array Edge} {gd : Option (Nat × Bool)}
theorem opx_mkfn1 {f : FuncId} {xs : List CV} : OpX P ⟨some d, .makeFunc (.func f) #[] #[x], ty, pos, af, gd⟩ [(x, .imm xs)] [] [] [(d, .r (.one (.fn f none [xs])))] [] :=
  opx_val rfl fun cx S O V a w ρ Z hg hR _ => by
    have h := hg.ag hR.1
    refine ⟨.func (.func f) #[] #[a.eval x], by simp [execOp, Instr.makeFunc], ⟨[], [a.eval x], rfl, rfl, h, trivial⟩, fun t ht => by cases ht⟩
theorem opx_mkfn2 {f : FuncId} {xs ys : List CV} : OpX P ⟨some d, .makeFunc (.func f) #[] #[x, y], ty, pos, af, gd⟩ [(x, .imm xs), (y, .imm ys)] [] [] [(d, .r (.one (.fn f none [xs, ys])))] [] :=
  opx_val rfl fun cx S O V a w ρ Z hg hR _ => by
    have h := hg.ag hR.1
    have h2 := hg.ag hR.2.1
    refine ⟨.func (.func f) #[] #[a.eval x, a.eval y], by simp [execOp, Instr.makeFunc], ⟨[], [a.eval x, a.eval y], rfl, rfl, h, h2, trivial⟩, fun t ht => by cases ht⟩
theorem run_call_fn {a : Act} {f : FuncId} {xs : List Operand} {ats : Array TypeId} {fs cs : List Value} (hv : a.eval x = .func (.func f) fs.toArray cs.toArray) (h : fnOk P f = true) (w : World) :
    (execOp a.eval ⟨some d, .call { callee := .value x, args := xs.toArray, argTypes := ats }, ty, pos, af, gd⟩).run P w = .ok (.enter f (fs ++ xs.map a.eval ++ cs).toArray) w := by
  rw [← run_callFunc h]
  simp [execOp, resolve, hv, Deferred.ofValue, invoke]
/-- A call whose results are plain, whatever stands as the callee. -/
theorem opx_enter {op : Op} {f : FuncId} {args rs0 : List AR}
    (hc : Con P f args [] (fun rs all => rs = rs0 ∧ all = [])) (hr : rs0.all rawAR = true)
    (H : ∀ (cx : Cx) (S : Nat → AV) (O : Nat → OB) (V : Nat → Prop) (a : Act) (w : World) (ρ : Nat → Value) (Z : Nat → Prop), Good cx S O V a w ρ Z → AgL S R → OgL O RO →
      ∃ vs : List Value, (execOp a.eval ⟨some d, op, ty, pos, af, none⟩).run P w = .ok (.enter f vs.toArray) w ∧ DRL ρ (fun g => Z g ∨ RowZ O ρ g) w args vs) :
    OpX P ⟨some d, op, ty, pos, af, none⟩ R RO [] [(d, mkRes rs0)] [] := by
  rintro cx S O V a w hR hO _ hU ⟨ρ, Z, hg⟩ K Q hK
  obtain ⟨vs, hexec, hdr⟩ := H cx S O V a w ρ Z hg hR hO
  have hent : Entry w (fun t => ρ t) (fun g => Z g ∨ RowZ O ρ g) args [] vs := by
    refine ⟨hdr, fun i => by simp [obAt]; trivial, fun i j g h1 => by simp [obAt, OB.live] at h1, fun i g h1 => by simp [obAt, OB.live] at h1, fun g h => ?_, hg.gl.mono (fun _ h => .inl h) (Same.refl _ _)⟩
    rcases h with h | ⟨t, wd, e, rows, h1, h2⟩
    · exact hg.zlt g h
    · exact hg.lt (by rw [h1]; rfl) h2
  have hcall := hc.run w _ _ _ hent
  unfold Oper.wp
  rw [hexec, Oper.upon_enter]
  refine hcall.mono fun e w' ⟨rs, all, us, ρ', Z', hpost, hlen, he, hl⟩ => ?_
  subst he
  obtain ⟨rfl, rfl⟩ := hpost
  have hgr : w.grownBy w' none := ⟨hl.os, hl.tape, hl.output, hl.size, fun g hg _ => hl.old g hg (by rintro ⟨i, h1, _⟩; simp [obAt, OB.live] at h1)⟩
  have hG := hg.grow hgr
  rw [List.all_eq_true] at hr
  have hres : DRL ρ Z w' rs us := DRL.mono (fun _ h => h) (Same.refl _ _) (fun x hx t ht => by rw [rawAR_tags (hr x hx)] at ht; cases ht) (hl.res.flat (Z' := Z) (List.all_eq_true.2 fun x hx => rawAR_flat (hr x hx)))
  have hda : DA ρ Z w' (mkRes rs) (mkRet us) := by
    match rs, us, hres with
    | [], [], _ => exact ⟨[], rfl, trivial⟩
    | [r], [u], h => exact h.1
    | r :: r2 :: rs, u :: u2 :: us, h => exact ⟨_, rfl, h⟩
  refine hK _ _ ⟨ρ, Z, (hG.put (blt_lt hU.1) hda fun s hs _ => ?_).weak fun t ht => ht.1⟩
  have : ∀ r ∈ rs, s ∉ r.tags := fun r hr' h => by rw [rawAR_tags (hr r hr')] at h; cases h
  match rs, hs with
  | [], hs => simp [mkRes, AV.tags] at hs
  | [r], hs => exact this r (.head _) hs
  | r :: r2 :: rs, hs =>
    simp only [mkRes, AV.tags, List.mem_flatMap] at hs
    obtain ⟨r', h6, h7⟩ := hs
    exact this r' h6 h7
theorem drl_append {ρ : Nat → Value} {Z : Nat → Prop} {w : World} : ∀ {xs ys : List AR} {us vs : List Value}, DRL ρ Z w xs us → DRL ρ Z w ys vs → DRL ρ Z w (xs ++ ys) (us ++ vs)
  | [], _, [], _, _, h => h
  | _ :: _, _, _ :: _, _, h1, h => ⟨h1.1, drl_append h1.2 h⟩
  | [], _, _ :: _, _, h, _ => h.elim
  | _ :: _, _, [], _, h, _ => h.elim
def capAR (caps : List (List CV)) : List AR := caps.map fun c => .one (.imm c)
theorem dil_drl {ρ : Nat → Value} {Z : Nat → Prop} {w : World} : ∀ {caps : List (List CV)} {cs : List Value}, DIL Z w caps cs → DRL ρ Z w (capAR caps) cs
  | [], [], _ => trivial
  | _ :: _, _ :: _, h => ⟨h.1, dil_drl h.2⟩
  | [], _ :: _, h => h.elim
  | _ :: _, [], h => h.elim
theorem opx_callfn {g : FuncId} {caps : List (List CV)} {xs : List Operand} {ats : Array TypeId} {args rs0 : List AR}
    (hc : Con P g (args ++ capAR caps) [] (fun rs all => rs = rs0 ∧ all = [])) (hr : rs0.all rawAR = true) (hx : ∀ S : Nat → AV, AgL S R → Ag S x (.r (.one (.fn g none caps)))) (ha : ∀ (S : Nat → AV) (O : Nat → OB) (f : Nat → Nat), AgL S R → OgL O RO → Args S O f true xs args) :
    OpX P ⟨some d, .call { callee := .value x, args := xs.toArray, argTypes := ats }, ty, pos, af, none⟩ R RO [] [(d, mkRes rs0)] [] :=
  opx_enter hc hr fun cx S O V a w ρ Z hg hR hO => by
    obtain ⟨fs, cs, h1, h2, h3⟩ := hg.ag (hx S hR)
    cases h2
    refine ⟨_, run_call_fn h1 hc.ok w, ?_⟩
    have h4 := (ha S O (fun t => t) hR hO).drl hg (Zc := fun g => Z g ∨ RowZ O ρ g) (fun _ h => .inl h) (fun _ _ h => .inr h)
    exact drl_append h4 (dil_drl (h3.mono (fun _ h => .inl h) (Same.refl _ _)))
theorem opx_shr1 {m : Int} (h : 0 ≤ m) : OpX P ⟨some d, .binOp .shr t x y t', ty, pos, af, gd⟩ [(x, .raw (.int .u64 m)), (y, .raw (.int .u64 1))] [] [] [(d, .raw (.int .u64 (m / 2)))] [] :=
  opx_int .shr .u64 m 1 _ rfl fun w x y => by
    simp [eqGuard, binOp, shift_shr_any, IntKind.bits]
def isI64 (P : Program) (t : TypeId) : Bool := match P.underlying t with | some (.int .i64) => true | _ => false
def isStr (P : Program) (t : TypeId) : Bool := match P.underlying t with | some .string => true | _ => false
def isStc (P : Program) (t : TypeId) : Bool := match P.underlying t with | some (.struct _) => true | _ => false
def eq2B (P : Program) (t : TypeId) (k : TypeId → Bool) : Bool :=
  (match (P.fieldsOf t).toList with
  | [f, g] => f.name != "_" && g.name != "_" && f.offset == 0 && g.offset == 1 && k f.type && k g.type
  | _ => false) && isStc P t && !P.stoodInHeld t && !P.eqGuardType P.depth t
class EqP (P : Program) (t : TypeId) : Prop where
  ok : eq2B P t (isI64 P) = true
class EqS (P : Program) (t : TypeId) : Prop where
  ok : eq2B P t (isStr P) = true
theorem eq2_of {k : TypeId → Bool} (h : eq2B P t k = true) : ∃ f g : Field, (P.fieldsOf t).toList = [f, g] ∧ f.name ≠ "_" ∧ g.name ≠ "_" ∧ f.offset = 0 ∧ g.offset = 1 ∧ k f.type = true ∧ k g.type = true ∧
    P.underlying t = some (.struct (P.fieldsOf t)) ∧ P.stoodInHeld t = false ∧ P.eqGuardType P.depth t = false := by
  simp only [eq2B, Bool.and_eq_true, Bool.not_eq_true'] at h
  obtain ⟨⟨⟨h1, h2⟩, h3⟩, h4⟩ := h
  have h5 : P.underlying t = some (.struct (P.fieldsOf t)) := by
    unfold isStc at h2
    unfold Program.fieldsOf
    split at h2
    · rename_i fs he; rw [he]
    · cases h2
  split at h1
  · rename_i f g he
    simp only [Bool.and_eq_true, bne_iff_ne, ne_eq, beq_iff_eq] at h1
    exact ⟨f, g, he, h1.1.1.1.1.1, h1.1.1.1.1.2, h1.1.1.1.2, h1.1.1.2, h1.1.2, h1.2, h5, h3, h4⟩
  · cases h1
theorem run_part1 {w : World} {e : TypeId} (he : isI64 P e = true ∨ isStr P e = true) {xs : Array Value} {off : Nat} {v : Value} (hx : xs[off]? = some v) : (part e xs off).run P w = .ok v w := by
  rcases he with he | he
  · unfold isI64 at he
    split at he
    · rename_i hu; simp [part, isAgg, run_underlying hu, hx]
    · cases he
  · unfold isStr at he
    split at he
    · rename_i hu; simp [part, isAgg, run_underlying hu, hx]
    · cases he
theorem isStr_of {e : TypeId} (he : isStr P e = true) : P.underlying e = some .string := by
  unfold isStr at he
  split at he
  · assumption
  · cases he
theorem run_eqS (w : World) (h : EqS P t) (a b c e : List UInt8) : (Op.equalIn 10000 t (.agg #[.string ⟨a.toArray⟩, .string ⟨b.toArray⟩]) (.agg #[.string ⟨c.toArray⟩, .string ⟨e.toArray⟩])).run P w = .ok (decide (a = c ∧ b = e)) w := by
  obtain ⟨f, g, h1, h2, h3, h4, h5, h6, h7, h8, h9, h10⟩ := eq2_of h.ok
  rw [run_equalIn_agg w 9999 t _ _ h8 h9, h1]
  have p1 : ∀ (x y : Value), (part f.type #[x, y] f.offset).run P w = .ok x w := fun x y => run_part1 (.inr h6) (by rw [h4]; rfl)
  have p2 : ∀ (x y : Value), (part g.type #[x, y] g.offset).run P w = .ok y w := fun x y => run_part1 (.inr h7) (by rw [h5]; rfl)
  have q : ∀ m n : List UInt8, ((⟨m.toArray⟩ : ByteArray).toList == (⟨n.toArray⟩ : ByteArray).toList) = decide (m = n) := fun m n => by
    rw [ByteArray.toList_eq, ByteArray.toList_eq, Bool.eq_iff_iff]; simp
  simp only [Op.eqFields, if_pos h2, if_pos h3, Sem.run_bind, p1, p2, Result.andThen_ok, run_equalIn_string w 9998 _ _ _ (isStr_of h6), run_equalIn_string w 9998 _ _ _ (isStr_of h7), q]
  by_cases ha : a = c <;> by_cases hb : b = e <;> simp [ha, hb, p2, run_equalIn_string w 9998 _ _ _ (isStr_of h7), q]
theorem agg2_val {ρ : Nat → Value} {Z : Nat → Prop} {w : World} {u u' v : Value} (h : DA ρ Z w (.agg [.c (.raw u), .c (.raw u')]) v) : v = .agg #[u, u'] := by
  obtain ⟨us, h1, h2⟩ := h
  match us, h2 with
  | [a, b], h2 =>
    have e1 : a = u := da_raw (ρ := ρ) (Z := Z) (w := w) (show DA ρ Z w (.raw u) a from h2.1)
    have e2 : b = u' := da_raw (ρ := ρ) (Z := Z) (w := w) (show DA ρ Z w (.raw u') b from h2.2.1)
    rw [h1, e1, e2]
  | [], h2 => exact h2.elim
  | [_], h2 => exact h2.2.elim
  | _ :: _ :: _ :: _, h2 => exact h2.2.2.elim
theorem opx_neS [hT : EqS P t] {a b c e : List UInt8} : OpX P ⟨some d, .binOp .neq t x y t', ty, pos, af, gd⟩ [(x, .agg [.c (.raw (.string ⟨a.toArray⟩)), .c (.raw (.string ⟨b.toArray⟩))]), (y, .agg [.c (.raw (.string ⟨c.toArray⟩)), .c (.raw (.string ⟨e.toArray⟩))])] [] [] [(d, .b (!decide (a = c ∧ b = e)))] [] :=
  opx_val rfl fun cx S O V aa w ρ Z hg hR hO => by
    refine ⟨.bool (!decide (a = c ∧ b = e)), ?_, da_mk rfl, by simp [AV.tags, AR.tags, A1.tag]⟩
    obtain ⟨f, g, h1, h2, h3, h4, h5, h6, h7, h8, h9, h10⟩ := eq2_of hT.ok
    simp only [execOp, agg2_val (hg.ag hR.1), agg2_val (hg.ag hR.2.1), Sem.run_bind, run_eqGuard_agg w .neq t x y _ _ h10, Result.andThen_ok, run_neq_struct, run_eqS w hT, Sem.run_pure]
theorem wrap_u64 {n : Int} (h : 0 ≤ n ∧ n ≤ 18446744073709551615) : IntKind.u64.wrap n = n := by
  unfold IntKind.wrap
  simp [IntKind.bits, IntKind.signed]
  omega
end
section
variable {P : Program} {ops : Array Oper} {cx : Cx} {Q : APost} {rest : List Oper} {l : SL} {m : OL} {n : Nat}
variable {d : Nat} {ty : TypeId} {pos : String} {af : Array Edge} {f : FuncId} {xs : List Operand} {ats : Array TypeId} {args rs0 : List AR} {x : Operand}
theorem al_callfn2 {g : FuncId} {caps : List (List CV)} (hx : Ag (lk .dead l) x (.r (.one (.fn g none caps)))) (ha : ArgsX (lk .dead l) (lk .gone m) xs args) (hd : Nat.blt d cx.N = true) (hc : Con P g (args ++ capAR caps) [] (fun rs all => rs = rs0 ∧ all = [])) (hr : rs0.all rawAR = true)
    (k : AL P ops cx Q rest ((d, mkRes rs0) :: l) m n) :
    AL P ops cx Q (⟨some d, .call { callee := .value x, args := xs.toArray, argTypes := ats }, ty, pos, af, none⟩ :: rest) l m n := by
  obtain ⟨h1, h2, h3⟩ := ha.d.ok
  exact al_v (opx_callfn (R := (x, .r (.one (.fn g none caps))) :: argR (lk .dead l) xs) hc hr (fun S hS => hS.1) (fun S O f hS hO => h3 S O f hS.2 hO)) ⟨hx, h1⟩ h2 hd k
/-- A function literal over two variables that are written no more. -/
theorem al_mkfn2 {s1 s2 t1 t2 : Nat} {e1 e2 : TypeId} {a b : CV} (h1 : lk .dead l s1 = .ref t1 0) (h2 : lk .dead l s2 = .ref t2 0) (o1 : lk .gone m t1 = .box e1 [.c a]) (o2 : lk .gone m t2 = .box e2 [.c b]) (hs : Nat.beq s1 s2 = false) (ht : Nat.beq t1 t2 = false) (hd : Nat.blt d cx.N = true)
    (k : AL P ops cx Q rest ((d, .r (.one (.fn f none [[a], [b]]))) :: (s2, .imm [b]) :: (s1, .imm [a]) :: l) ((t2, .gone) :: (t1, .gone) :: m) n) :
    AL P ops cx Q (⟨some d, .makeFunc (.func f) #[] #[.tmp s1, .tmp s2], ty, pos, af, none⟩ :: rest) l m n := by
  refine al_le (le_retire s1 t1 h1 o1) ?_
  have hs' : Nat.beq s2 s1 = false := beq_ne (fun e => by subst e; rw [beq_self] at hs; cases hs)
  refine al_le (le_retire s2 t2 (by simp only [lk, hs, cond]; exact h2) (by simp only [lk, ht, cond]; exact o2)) ?_
  exact al_v opx_mkfn2 ⟨by simp [Ag, vl, lk, hs', beq_self], by simp [Ag, vl, lk, beq_self], trivial⟩ trivial hd k
theorem al_mkfn1 {s1 t1 : Nat} {e1 : TypeId} {a : CV} (h1 : lk .dead l s1 = .ref t1 0) (o1 : lk .gone m t1 = .box e1 [.c a]) (hd : Nat.blt d cx.N = true)
    (k : AL P ops cx Q rest ((d, .r (.one (.fn f none [[a]]))) :: (s1, .imm [a]) :: l) ((t1, .gone) :: m) n) :
    AL P ops cx Q (⟨some d, .makeFunc (.func f) #[] #[.tmp s1], ty, pos, af, none⟩ :: rest) l m n := by
  refine al_le (le_retire s1 t1 h1 o1) ?_
  exact al_v opx_mkfn1 ⟨by simp [Ag, vl, lk, beq_self], trivial⟩ trivial hd k
end
end Go.Proofs.YtfoecgfboicphaaGreatDoor
/-
  Calls in drawn regions whose answers are values with memory of their own.
-/
namespace Go.Proofs.YtfoecgfboicphaaGreatDoor
open Go.RowKit
set_option linter.unusedVariables false
set_option linter.unusedSimpArgs false

theorem Good.callF {cx : Cx} {S : Nat → AV} {O : Nat → OB} {V : Nat → Prop} {a : Act} {w w' : World} {ρ ρ' : Nat → Value} {Z Z' : Nat → Prop} {ρ0 : Nat → Value} {d : Nat} {rs : List AR} {us : List Value}
    (h : Good cx S O V a w ρ Z) (hl : Leave w ρ0 Z [] w' ρ' Z' rs [] us) (ht : noTags rs = true) (hd : d < cx.N) :
    Good cx (lkf S [(d, mkRes rs)]) O V (a.put (some d) (mkRet us)) w' ρ Z' := by
  have hno : ∀ g, ¬ Wr [] ρ0 g := by rintro g ⟨i, h1, _⟩; simp [obAt, OB.live] at h1
  have hold : ∀ g, g < w.heap.size → w'.heap[g]? = w.heap[g]? := fun g hg => hl.old g hg (hno g)
  have hsame : Same Z w w' := fun g hz => hold g (h.zlt g hz)
  have hznew : ∀ g, Z' g → Z g ∨ w.heap.size ≤ g := fun g hz => by
    rcases hl.znew g hz with h1 | h1 | h1
    · exact .inl h1
    · exact .inr h1
    · exact absurd h1 (hno g)
  have hG : Good cx S O V a w' ρ Z' := by
    refine ⟨h.size, h.defers, fun t => DA.mono hl.zmono hsame (fun _ _ => rfl) (h.slot t), fun t => DO.mono hl.zmono hsame rfl (fun _ _ => rfl) (fun hv g hg => hold g (h.lt hv hg)) (h.obj t), h.sep, fun t g h1 h2 => ⟨fun hz => ?_, (h.out t g h1 h2).2⟩, hl.zlt, h.virgin,
      hl.os.trans h.os, hl.tape.trans h.tape, hl.output.trans h.output, Nat.le_trans h.big hl.size, fun g hg hm => (hold g (by have := h.big; omega)).trans (h.old g hg hm), h.pin, h.vlo, ⟨fun g hz => hl.zmono g (h.zin.1 g hz), h.zin.2⟩, fun g hz => ?_⟩
    · rcases hznew g hz with h3 | h3
      · exact (h.out t g h1 h2).1 h3
      · have := h.lt h1 h2; omega
    · rcases hznew g hz with h3 | h3
      · exact h.zout g h3
      · exact .inr (.inl (by have := h.big; omega))
  rw [noTags, List.all_eq_true] at ht
  have hr : ∀ r ∈ rs, r.tags = [] := fun r hr => List.isEmpty_iff.1 (ht r hr)
  have hres : DRL ρ Z' w' rs us := DRL.mono (fun _ h => h) (Same.refl _ _) (fun x hx t hxt => by rw [hr x hx] at hxt; cases hxt) hl.res
  have hda : DA ρ Z' w' (mkRes rs) (mkRet us) := by
    match rs, us, hres with
    | [], [], _ => exact ⟨[], rfl, trivial⟩
    | [r], [u], h => exact h.1
    | r :: r2 :: rs, u :: u2 :: us, h => exact ⟨_, rfl, h⟩
  refine hG.put hd hda fun s hs _ => ?_
  have : ∀ r ∈ rs, s ∉ r.tags := fun r hr' h => by rw [hr r hr'] at h; cases h
  match rs, hs with
  | [], hs => simp [mkRes, AV.tags] at hs
  | [r], hs => exact this r (.head _) hs
  | r :: r2 :: rs, hs =>
    simp only [mkRes, AV.tags, List.mem_flatMap] at hs
    obtain ⟨r', h6, h7⟩ := hs
    exact this r' h6 h7
/-- Arguments that are values, or slices written no more. -/
inductive ArgsY (S : Nat → AV) (O : Nat → OB) : List Operand → List AR → Prop where
  | nil : ArgsY S O [] []
  | one {x : Operand} {r : AR} {xs : List Operand} {rs : List AR} : Ag S x (.r r) → r.tags = [] → ArgsY S O xs rs → ArgsY S O (x :: xs) (r :: rs)
  | froz {x : Operand} {t wd : Nat} {rows : List (List CV)} {xs : List Operand} {rs : List AR} : Ag S x (.own t) → O t = .froz wd rows → ArgsY S O xs rs → ArgsY S O (x :: xs) (.one (.c (.sl wd rows)) :: rs)
  | rnil {x : Operand} {wd : Nat} {xs : List Operand} {rs : List AR} : Ag S x (.raw (.slice none 0 0)) → ArgsY S O xs rs → ArgsY S O (x :: xs) (.one (.c (.sl wd [])) :: rs)
theorem ArgsY.ok {S : Nat → AV} {O : Nat → OB} {xs : List Operand} {rs : List AR} (h : ArgsY S O xs rs) : AgL S (argR S xs) ∧ OgL O (argO S O xs) ∧
    ∀ (S' : Nat → AV) (O' : Nat → OB) (f : Nat → Nat), AgL S' (argR S xs) → OgL O' (argO S O xs) → Args S' O' f false xs rs := by
  induction h with
  | nil => exact ⟨trivial, trivial, fun _ _ _ _ _ => .nil⟩
  | one h1 h2 _ ih =>
    have e : vl S _ = _ := h1
    simp only [argR, argO, List.map_cons, List.flatMap_cons, e, argO1_c h2, List.nil_append]
    exact ⟨⟨h1, ih.1⟩, ih.2.1, fun S' O' f hR hO => .one hR.1 h2 (ih.2.2 S' O' f hR.2 hO)⟩
  | froz h1 h2 _ ih =>
    have e : vl S _ = _ := h1
    simp only [argR, argO, List.map_cons, List.flatMap_cons, e, argO1, h2, List.cons_append, List.nil_append]
    exact ⟨⟨h1, ih.1⟩, ⟨h2, ih.2.1⟩, fun S' O' f hR hO => .froz hR.1 hO.1 (ih.2.2 S' O' f hR.2 hO.2)⟩
  | rnil h1 _ ih =>
    have e : vl S _ = _ := h1
    simp only [argR, argO, List.map_cons, List.flatMap_cons, e, argO1, List.nil_append]
    exact ⟨⟨h1, ih.1⟩, ih.2.1, fun S' O' f hR hO => .rnil hR.1 (ih.2.2 S' O' f hR.2 hO)⟩
theorem opx_callF {P : Program} {R : List (Operand × AV)} {RO : OL} {f : FuncId} {xs : List Operand} {ats : Array TypeId} {args rs0 : List AR} {d : Nat} {ty : TypeId} {pos : String} {af : Array Edge}
    (hc : Con P f args [] (fun rs all => rs = rs0 ∧ all = [])) (ht : noTags rs0 = true) (ha : ∀ (S : Nat → AV) (O : Nat → OB) (f : Nat → Nat), AgL S R → OgL O RO → Args S O f false xs args) :
    OpX P ⟨some d, .call { callee := .value (.func f), args := xs.toArray, argTypes := ats }, ty, pos, af, none⟩ R RO [] [(d, mkRes rs0)] [] := by
  rintro cx S O V a w hR hO _ hU ⟨ρ, Z, hg⟩ K Q hK
  have hent : Entry w (fun t => ρ t) Z args [] (xs.map a.eval) :=
    ⟨(ha S O (fun t => t) hR hO).drl hg (fun _ h => h) (fun h => by cases h), fun i => by simp [obAt]; trivial, fun i j g h1 => by simp [obAt, OB.live] at h1, fun i g h1 => by simp [obAt, OB.live] at h1, hg.zlt, hg.gl⟩
  have hcall := hc.run w _ _ _ hent
  unfold Oper.wp
  have hexec : (execOp a.eval ⟨some d, .call { callee := .value (.func f), args := xs.toArray, argTypes := ats }, ty, pos, af, none⟩).run P w = .ok (.enter f (xs.map a.eval).toArray) w := by
    rw [execOp_call_go, run_callFunc hc.ok]
    simp
  rw [hexec, Oper.upon_enter]
  refine hcall.mono fun e w' ⟨rs, all, us, ρ', Z', hpost, hlen, he, hl⟩ => ?_
  subst he
  obtain ⟨rfl, rfl⟩ := hpost
  exact hK _ _ ⟨ρ, Z', (hg.callF hl ht (blt_lt hU.1)).weak fun t h => h.1⟩
section
variable {P : Program} {ol : List Oper} {cx : Cx} {Q : APost} {done : List Keys} {rest : List Oper} {l : SL} {m : OL} {n : Nat}
variable {d : Nat} {ty : TypeId} {pos : String} {af : Array Edge} {f : FuncId} {xs : List Operand} {ats : Array TypeId} {args rs0 : List AR}
theorem ad_callF2 (ha : ArgsY (lk .dead l) (lk .gone m) xs args) (hd : Nat.blt d cx.N = true) (hc : Con P f args [] (fun rs all => rs = rs0 ∧ all = [])) (ht : noTags rs0 = true)
    (k : AD P ol cx Q (⟨rtmps (argR (lk .dead l) xs), [d], (argO (lk .dead l) (lk .gone m) xs).map (·.1), [], []⟩ :: done) rest ((d, mkRes rs0) :: l) m n) :
    AD P ol cx Q done (⟨some d, .call { callee := .value (.func f), args := xs.toArray, argTypes := ats }, ty, pos, af, none⟩ :: rest) l m n := by
  obtain ⟨h1, h2, h3⟩ := ha.ok
  exact ad_v (opx_callF hc ht h3) h1 h2 hd k
end
end Go.Proofs.YtfoecgfboicphaaGreatDoor
/-
  Facts on the translation's types, for the engine's rules. Written by a program of our own.
-/
namespace Go.Proofs.YtfoecgfboicphaaGreatDoor
open Go.RowKit
instance : TyOne Tryz.prog 2 := ⟨by kernel_rfl⟩
instance : TyZ Tryz.prog 2 [.int .i64 0] := ⟨by kernel_rfl, rfl⟩
instance : TyOne Tryz.prog 3 := ⟨by kernel_rfl⟩
instance : TyZ Tryz.prog 3 [.int .i64 0] := ⟨by kernel_rfl, rfl⟩
instance : TyOne Tryz.prog 4 := ⟨by kernel_rfl⟩
instance : TyZ Tryz.prog 4 [.bool false] := ⟨by kernel_rfl, rfl⟩
instance : BoolT Tryz.prog 4 := ⟨by kernel_rfl⟩
instance : TyOne Tryz.prog 5 := ⟨by kernel_rfl⟩
instance : TyZ Tryz.prog 5 [.int .u8 0] := ⟨by kernel_rfl, rfl⟩
instance : TyOne Tryz.prog 6 := ⟨by kernel_rfl⟩
instance : TyZ Tryz.prog 6 [.int .u8 0] := ⟨by kernel_rfl, rfl⟩
instance : TyOne Tryz.prog 9 := ⟨by kernel_rfl⟩
instance : TyZ Tryz.prog 9 [.string ⟨#[]⟩] := ⟨by kernel_rfl, rfl⟩
instance : StrT Tryz.prog 9 := ⟨by kernel_rfl⟩
instance : TyOne Tryz.prog 10 := ⟨by kernel_rfl⟩
instance : TyZ Tryz.prog 10 [.string ⟨#[]⟩] := ⟨by kernel_rfl, rfl⟩
instance : StrT Tryz.prog 10 := ⟨by kernel_rfl⟩
instance : TyOne Tryz.prog 11 := ⟨by kernel_rfl⟩
instance : TyZ Tryz.prog 11 [.string ⟨#[]⟩] := ⟨by kernel_rfl, rfl⟩
instance : StrT Tryz.prog 11 := ⟨by kernel_rfl⟩
instance : TyOne Tryz.prog 12 := ⟨by kernel_rfl⟩
instance : TyZ Tryz.prog 12 [.int .u64 0] := ⟨by kernel_rfl, rfl⟩
instance : TyOne Tryz.prog 15 := ⟨by kernel_rfl⟩
instance : TyZ Tryz.prog 15 [.pointer none] := ⟨by kernel_rfl, rfl⟩
instance : TyOne Tryz.prog 16 := ⟨by kernel_rfl⟩
instance : TyZ Tryz.prog 16 [.pointer none] := ⟨by kernel_rfl, rfl⟩
instance : TyOne Tryz.prog 17 := ⟨by kernel_rfl⟩
instance : TyZ Tryz.prog 17 [.pointer none] := ⟨by kernel_rfl, rfl⟩
instance : TyOne Tryz.prog 21 := ⟨by kernel_rfl⟩
instance : TyZ Tryz.prog 21 [.int .i32 0] := ⟨by kernel_rfl, rfl⟩
instance : TyOne Tryz.prog 22 := ⟨by kernel_rfl⟩
instance : TyZ Tryz.prog 22 [.slice none 0 0] := ⟨by kernel_rfl, rfl⟩
instance : SlT Tryz.prog 22 5 1 1 [.int .u8 0] := ⟨by kernel_rfl, rfl, by decide, rfl⟩
instance : TyOne Tryz.prog 23 := ⟨by kernel_rfl⟩
instance : TyZ Tryz.prog 23 [.slice none 0 0] := ⟨by kernel_rfl, rfl⟩
instance : SlT Tryz.prog 23 9 1 16 [.string ⟨#[]⟩] := ⟨by kernel_rfl, rfl, by decide, rfl⟩
instance : TyOne Tryz.prog 31 := ⟨by kernel_rfl⟩
instance : TyZ Tryz.prog 31 [.pointer none] := ⟨by kernel_rfl, rfl⟩
instance : TyOne Tryz.prog 34 := ⟨by kernel_rfl⟩
instance : TyZ Tryz.prog 34 [.slice none 0 0] := ⟨by kernel_rfl, rfl⟩
instance : SlT Tryz.prog 34 3 1 8 [.int .i64 0] := ⟨by kernel_rfl, rfl, by decide, rfl⟩
instance : TyOne Tryz.prog 39 := ⟨by kernel_rfl⟩
instance : TyZ Tryz.prog 39 [.slice none 0 0] := ⟨by kernel_rfl, rfl⟩
instance : SlT Tryz.prog 39 64 1 24 [.slice none 0 0] := ⟨by kernel_rfl, rfl, by decide, rfl⟩
instance : TyOne Tryz.prog 40 := ⟨by kernel_rfl⟩
instance : TyZ Tryz.prog 40 [.slice none 0 0] := ⟨by kernel_rfl, rfl⟩
instance : SlT Tryz.prog 40 71 1 24 [.slice none 0 0] := ⟨by kernel_rfl, rfl, by decide, rfl⟩
instance : TyStr Tryz.prog 41 2 := ⟨by kernel_rfl⟩
instance : Fld Tryz.prog 41 0 0 := ⟨by kernel_rfl⟩
instance : Fld Tryz.prog 41 1 1 := ⟨by kernel_rfl⟩
instance : BldT Tryz.prog 41 [(0, 1), (1, 1)] [.slice none 0 0, .slice none 0 0] := ⟨by kernel_rfl, rfl⟩
instance : TyZ Tryz.prog 41 [.slice none 0 0, .slice none 0 0] := ⟨by kernel_rfl, rfl⟩
instance : TyStr Tryz.prog 42 2 := ⟨by kernel_rfl⟩
instance : Fld Tryz.prog 42 0 0 := ⟨by kernel_rfl⟩
instance : Fld Tryz.prog 42 1 1 := ⟨by kernel_rfl⟩
instance : BldT Tryz.prog 42 [(0, 1), (1, 1)] [.slice none 0 0, .slice none 0 0] := ⟨by kernel_rfl, rfl⟩
instance : TyZ Tryz.prog 42 [.slice none 0 0, .slice none 0 0] := ⟨by kernel_rfl, rfl⟩
instance : TyOne Tryz.prog 44 := ⟨by kernel_rfl⟩
instance : TyZ Tryz.prog 44 [.map none] := ⟨by kernel_rfl, rfl⟩
instance : TyOne Tryz.prog 45 := ⟨by kernel_rfl⟩
instance : TyZ Tryz.prog 45 [.pointer none] := ⟨by kernel_rfl, rfl⟩
instance : TyStr Tryz.prog 46 2 := ⟨by kernel_rfl⟩
instance : Fld Tryz.prog 46 0 0 := ⟨by kernel_rfl⟩
instance : Fld Tryz.prog 46 1 1 := ⟨by kernel_rfl⟩
instance : BldT Tryz.prog 46 [(0, 1), (1, 1)] [.pointer none, .slice none 0 0] := ⟨by kernel_rfl, rfl⟩
instance : TyZ Tryz.prog 46 [.pointer none, .slice none 0 0] := ⟨by kernel_rfl, rfl⟩
instance : TyStr Tryz.prog 47 2 := ⟨by kernel_rfl⟩
instance : Fld Tryz.prog 47 0 0 := ⟨by kernel_rfl⟩
instance : Fld Tryz.prog 47 1 1 := ⟨by kernel_rfl⟩
instance : BldT Tryz.prog 47 [(0, 1), (1, 1)] [.pointer none, .slice none 0 0] := ⟨by kernel_rfl, rfl⟩
instance : TyZ Tryz.prog 47 [.pointer none, .slice none 0 0] := ⟨by kernel_rfl, rfl⟩
instance : TyOne Tryz.prog 57 := ⟨by kernel_rfl⟩
instance : TyZ Tryz.prog 57 [.pointer none] := ⟨by kernel_rfl, rfl⟩
instance : TyStr Tryz.prog 58 2 := ⟨by kernel_rfl⟩
instance : Fld Tryz.prog 58 0 0 := ⟨by kernel_rfl⟩
instance : Fld Tryz.prog 58 1 1 := ⟨by kernel_rfl⟩
instance : BldT Tryz.prog 58 [(0, 1), (1, 1)] [.slice none 0 0, .slice none 0 0] := ⟨by kernel_rfl, rfl⟩
instance : TyZ Tryz.prog 58 [.slice none 0 0, .slice none 0 0] := ⟨by kernel_rfl, rfl⟩
instance : TyStr Tryz.prog 59 2 := ⟨by kernel_rfl⟩
instance : Fld Tryz.prog 59 0 0 := ⟨by kernel_rfl⟩
instance : Fld Tryz.prog 59 1 1 := ⟨by kernel_rfl⟩
instance : BldT Tryz.prog 59 [(0, 1), (1, 1)] [.slice none 0 0, .slice none 0 0] := ⟨by kernel_rfl, rfl⟩
instance : TyZ Tryz.prog 59 [.slice none 0 0, .slice none 0 0] := ⟨by kernel_rfl, rfl⟩
instance : TyStr Tryz.prog 61 2 := ⟨by kernel_rfl⟩
instance : Fld Tryz.prog 61 0 0 := ⟨by kernel_rfl⟩
instance : Fld Tryz.prog 61 1 1 := ⟨by kernel_rfl⟩
instance : BldT Tryz.prog 61 [(0, 1), (1, 1)] [.slice none 0 0, .int .i64 0] := ⟨by kernel_rfl, rfl⟩
instance : TyZ Tryz.prog 61 [.slice none 0 0, .int .i64 0] := ⟨by kernel_rfl, rfl⟩
instance : TyStr Tryz.prog 62 2 := ⟨by kernel_rfl⟩
instance : Fld Tryz.prog 62 0 0 := ⟨by kernel_rfl⟩
instance : Fld Tryz.prog 62 1 1 := ⟨by kernel_rfl⟩
instance : BldT Tryz.prog 62 [(0, 1), (1, 1)] [.slice none 0 0, .int .i64 0] := ⟨by kernel_rfl, rfl⟩
instance : TyZ Tryz.prog 62 [.slice none 0 0, .int .i64 0] := ⟨by kernel_rfl, rfl⟩
instance : TyOne Tryz.prog 63 := ⟨by kernel_rfl⟩
instance : TyZ Tryz.prog 63 [.pointer none] := ⟨by kernel_rfl, rfl⟩
instance : TyOne Tryz.prog 64 := ⟨by kernel_rfl⟩
instance : TyZ Tryz.prog 64 [.slice none 0 0] := ⟨by kernel_rfl, rfl⟩
instance : SlT Tryz.prog 64 104 2 32 [.string ⟨#[]⟩, .string ⟨#[]⟩] := ⟨by kernel_rfl, rfl, by decide, rfl⟩
instance : TyStr Tryz.prog 65 2 := ⟨by kernel_rfl⟩
instance : Fld Tryz.prog 65 0 0 := ⟨by kernel_rfl⟩
instance : Fld Tryz.prog 65 1 1 := ⟨by kernel_rfl⟩
instance : EqP Tryz.prog 65 := ⟨by kernel_rfl⟩
instance : BldT Tryz.prog 65 [(0, 1), (1, 1)] [.int .i64 0, .int .i64 0] := ⟨by kernel_rfl, rfl⟩
instance : TyZ Tryz.prog 65 [.int .i64 0, .int .i64 0] := ⟨by kernel_rfl, rfl⟩
instance : TyStr Tryz.prog 66 2 := ⟨by kernel_rfl⟩
instance : Fld Tryz.prog 66 0 0 := ⟨by kernel_rfl⟩
instance : Fld Tryz.prog 66 1 1 := ⟨by kernel_rfl⟩
instance : EqP Tryz.prog 66 := ⟨by kernel_rfl⟩
instance : BldT Tryz.prog 66 [(0, 1), (1, 1)] [.int .i64 0, .int .i64 0] := ⟨by kernel_rfl, rfl⟩
instance : TyZ Tryz.prog 66 [.int .i64 0, .int .i64 0] := ⟨by kernel_rfl, rfl⟩
instance : TyOne Tryz.prog 71 := ⟨by kernel_rfl⟩
instance : TyZ Tryz.prog 71 [.slice none 0 0] := ⟨by kernel_rfl, rfl⟩
instance : SlT Tryz.prog 71 66 2 16 [.int .i64 0, .int .i64 0] := ⟨by kernel_rfl, rfl, by decide, rfl⟩
instance : TyOne Tryz.prog 81 := ⟨by kernel_rfl⟩
instance : TyZ Tryz.prog 81 [.pointer none] := ⟨by kernel_rfl, rfl⟩
instance : TyOne Tryz.prog 98 := ⟨by kernel_rfl⟩
instance : TyZ Tryz.prog 98 [.pointer none] := ⟨by kernel_rfl, rfl⟩
instance : TyStr Tryz.prog 103 2 := ⟨by kernel_rfl⟩
instance : Fld Tryz.prog 103 0 0 := ⟨by kernel_rfl⟩
instance : Fld Tryz.prog 103 1 1 := ⟨by kernel_rfl⟩
instance : EqS Tryz.prog 103 := ⟨by kernel_rfl⟩
instance : BldT Tryz.prog 103 [(0, 1), (1, 1)] [.string ⟨#[]⟩, .string ⟨#[]⟩] := ⟨by kernel_rfl, rfl⟩
instance : TyZ Tryz.prog 103 [.string ⟨#[]⟩, .string ⟨#[]⟩] := ⟨by kernel_rfl, rfl⟩
instance : TyStr Tryz.prog 104 2 := ⟨by kernel_rfl⟩
instance : Fld Tryz.prog 104 0 0 := ⟨by kernel_rfl⟩
instance : Fld Tryz.prog 104 1 1 := ⟨by kernel_rfl⟩
instance : EqS Tryz.prog 104 := ⟨by kernel_rfl⟩
instance : BldT Tryz.prog 104 [(0, 1), (1, 1)] [.string ⟨#[]⟩, .string ⟨#[]⟩] := ⟨by kernel_rfl, rfl⟩
instance : TyZ Tryz.prog 104 [.string ⟨#[]⟩, .string ⟨#[]⟩] := ⟨by kernel_rfl, rfl⟩
instance : TyOne Tryz.prog 111 := ⟨by kernel_rfl⟩
instance : TyZ Tryz.prog 111 [.int .u64 0] := ⟨by kernel_rfl, rfl⟩
instance : TyOne Tryz.prog 121 := ⟨by kernel_rfl⟩
instance : TyZ Tryz.prog 121 [.int .i64 0] := ⟨by kernel_rfl, rfl⟩
instance : TyOne Tryz.prog 124 := ⟨by kernel_rfl⟩
instance : TyZ Tryz.prog 124 [.pointer none] := ⟨by kernel_rfl, rfl⟩
instance : TyOne Tryz.prog 128 := ⟨by kernel_rfl⟩
instance : TyZ Tryz.prog 128 [.int .u64 0] := ⟨by kernel_rfl, rfl⟩
instance : TyOne Tryz.prog 133 := ⟨by kernel_rfl⟩
instance : TyZ Tryz.prog 133 [.int .u32 0] := ⟨by kernel_rfl, rfl⟩
instance : TyStr Tryz.prog 140 3 := ⟨by kernel_rfl⟩
instance : Fld Tryz.prog 140 0 0 := ⟨by kernel_rfl⟩
instance : Fld Tryz.prog 140 1 1 := ⟨by kernel_rfl⟩
instance : Fld Tryz.prog 140 2 2 := ⟨by kernel_rfl⟩
instance : BldT Tryz.prog 140 [(0, 1), (1, 1), (2, 1)] [.string ⟨#[]⟩, .string ⟨#[]⟩, .nilIface] := ⟨by kernel_rfl, rfl⟩
instance : TyZ Tryz.prog 140 [.string ⟨#[]⟩, .string ⟨#[]⟩, .nilIface] := ⟨by kernel_rfl, rfl⟩
instance : TyStr Tryz.prog 141 3 := ⟨by kernel_rfl⟩
instance : Fld Tryz.prog 141 0 0 := ⟨by kernel_rfl⟩
instance : Fld Tryz.prog 141 1 1 := ⟨by kernel_rfl⟩
instance : Fld Tryz.prog 141 2 2 := ⟨by kernel_rfl⟩
instance : BldT Tryz.prog 141 [(0, 1), (1, 1), (2, 1)] [.string ⟨#[]⟩, .string ⟨#[]⟩, .nilIface] := ⟨by kernel_rfl, rfl⟩
instance : TyZ Tryz.prog 141 [.string ⟨#[]⟩, .string ⟨#[]⟩, .nilIface] := ⟨by kernel_rfl, rfl⟩
instance : TyStr Tryz.prog 148 2 := ⟨by kernel_rfl⟩
instance : Fld Tryz.prog 148 0 0 := ⟨by kernel_rfl⟩
instance : Fld Tryz.prog 148 1 1 := ⟨by kernel_rfl⟩
instance : BldT Tryz.prog 148 [(0, 1), (1, 1)] [.int .u8 0, .int .u8 0] := ⟨by kernel_rfl, rfl⟩
instance : TyZ Tryz.prog 148 [.int .u8 0, .int .u8 0] := ⟨by kernel_rfl, rfl⟩
instance : TyStr Tryz.prog 149 2 := ⟨by kernel_rfl⟩
instance : Fld Tryz.prog 149 0 0 := ⟨by kernel_rfl⟩
instance : Fld Tryz.prog 149 1 1 := ⟨by kernel_rfl⟩
instance : BldT Tryz.prog 149 [(0, 1), (1, 1)] [.int .u8 0, .int .u8 0] := ⟨by kernel_rfl, rfl⟩
instance : TyZ Tryz.prog 149 [.int .u8 0, .int .u8 0] := ⟨by kernel_rfl, rfl⟩
instance : TyOne Tryz.prog 152 := ⟨by kernel_rfl⟩
instance : TyZ Tryz.prog 152 [.pointer none] := ⟨by kernel_rfl, rfl⟩
instance : TyStr Tryz.prog 153 1 := ⟨by kernel_rfl⟩
instance : Fld Tryz.prog 153 0 0 := ⟨by kernel_rfl⟩
instance : BldT Tryz.prog 153 [(0, 1)] [.string ⟨#[]⟩] := ⟨by kernel_rfl, rfl⟩
instance : TyZ Tryz.prog 153 [.string ⟨#[]⟩] := ⟨by kernel_rfl, rfl⟩
instance : TyStr Tryz.prog 154 1 := ⟨by kernel_rfl⟩
instance : Fld Tryz.prog 154 0 0 := ⟨by kernel_rfl⟩
instance : BldT Tryz.prog 154 [(0, 1)] [.string ⟨#[]⟩] := ⟨by kernel_rfl, rfl⟩
instance : TyZ Tryz.prog 154 [.string ⟨#[]⟩] := ⟨by kernel_rfl, rfl⟩
instance : TyOne Tryz.prog 164 := ⟨by kernel_rfl⟩
instance : TyZ Tryz.prog 164 [.int .u8 0] := ⟨by kernel_rfl, rfl⟩
instance : TyOne Tryz.prog 165 := ⟨by kernel_rfl⟩
instance : TyZ Tryz.prog 165 [.int .u8 0] := ⟨by kernel_rfl, rfl⟩
instance : TyOne Tryz.prog 167 := ⟨by kernel_rfl⟩
instance : TyZ Tryz.prog 167 [.int .i32 0] := ⟨by kernel_rfl, rfl⟩
instance : TyOne Tryz.prog 168 := ⟨by kernel_rfl⟩
instance : TyZ Tryz.prog 168 [.int .i32 0] := ⟨by kernel_rfl, rfl⟩
instance : TyStr Tryz.prog 169 11 := ⟨by kernel_rfl⟩
instance : Fld Tryz.prog 169 0 0 := ⟨by kernel_rfl⟩
instance : Fld Tryz.prog 169 1 1 := ⟨by kernel_rfl⟩
instance : Fld Tryz.prog 169 2 2 := ⟨by kernel_rfl⟩
instance : Fld Tryz.prog 169 3 3 := ⟨by kernel_rfl⟩
instance : Fld Tryz.prog 169 4 4 := ⟨by kernel_rfl⟩
instance : Fld Tryz.prog 169 5 5 := ⟨by kernel_rfl⟩
instance : Fld Tryz.prog 169 6 6 := ⟨by kernel_rfl⟩
instance : Fld Tryz.prog 169 7 7 := ⟨by kernel_rfl⟩
instance : Fld Tryz.prog 169 8 8 := ⟨by kernel_rfl⟩
instance : Fld Tryz.prog 169 9 9 := ⟨by kernel_rfl⟩
instance : Fld Tryz.prog 169 10 10 := ⟨by kernel_rfl⟩
instance : BldT Tryz.prog 169 [(0, 1), (1, 1), (2, 1), (3, 1), (4, 1), (5, 1), (6, 1), (7, 1), (8, 1), (9, 1), (10, 1)] [.int .u64 0, .int .u64 0, .int .u32 0, .int .u8 0, .int .u8 0, .int .u8 0, .int .u8 0, .nilFunc, .pointer none, .int .i32 0, .int .i32 0] := ⟨by kernel_rfl, rfl⟩
instance : TyZ Tryz.prog 169 [.int .u64 0, .int .u64 0, .int .u32 0, .int .u8 0, .int .u8 0, .int .u8 0, .int .u8 0, .nilFunc, .pointer none, .int .i32 0, .int .i32 0] := ⟨by kernel_rfl, rfl⟩
instance : TyStr Tryz.prog 170 11 := ⟨by kernel_rfl⟩
instance : Fld Tryz.prog 170 0 0 := ⟨by kernel_rfl⟩
instance : Fld Tryz.prog 170 1 1 := ⟨by kernel_rfl⟩
instance : Fld Tryz.prog 170 2 2 := ⟨by kernel_rfl⟩
instance : Fld Tryz.prog 170 3 3 := ⟨by kernel_rfl⟩
instance : Fld Tryz.prog 170 4 4 := ⟨by kernel_rfl⟩
instance : Fld Tryz.prog 170 5 5 := ⟨by kernel_rfl⟩
instance : Fld Tryz.prog 170 6 6 := ⟨by kernel_rfl⟩
instance : Fld Tryz.prog 170 7 7 := ⟨by kernel_rfl⟩
instance : Fld Tryz.prog 170 8 8 := ⟨by kernel_rfl⟩
instance : Fld Tryz.prog 170 9 9 := ⟨by kernel_rfl⟩
instance : Fld Tryz.prog 170 10 10 := ⟨by kernel_rfl⟩
instance : BldT Tryz.prog 170 [(0, 1), (1, 1), (2, 1), (3, 1), (4, 1), (5, 1), (6, 1), (7, 1), (8, 1), (9, 1), (10, 1)] [.int .u64 0, .int .u64 0, .int .u32 0, .int .u8 0, .int .u8 0, .int .u8 0, .int .u8 0, .nilFunc, .pointer none, .int .i32 0, .int .i32 0] := ⟨by kernel_rfl, rfl⟩
instance : TyZ Tryz.prog 170 [.int .u64 0, .int .u64 0, .int .u32 0, .int .u8 0, .int .u8 0, .int .u8 0, .int .u8 0, .nilFunc, .pointer none, .int .i32 0, .int .i32 0] := ⟨by kernel_rfl, rfl⟩
instance : CvT Tryz.prog 2 3 .i64 := ⟨by kernel_rfl, by kernel_rfl⟩
instance : CvT Tryz.prog 2 5 .u8 := ⟨by kernel_rfl, by kernel_rfl⟩
instance : CvT Tryz.prog 2 12 .u64 := ⟨by kernel_rfl, by kernel_rfl⟩
instance : CvT Tryz.prog 2 21 .i32 := ⟨by kernel_rfl, by kernel_rfl⟩
instance : CvT Tryz.prog 2 111 .u64 := ⟨by kernel_rfl, by kernel_rfl⟩
instance : CvT Tryz.prog 2 128 .u64 := ⟨by kernel_rfl, by kernel_rfl⟩
instance : CvT Tryz.prog 2 133 .u32 := ⟨by kernel_rfl, by kernel_rfl⟩
instance : CvT Tryz.prog 3 2 .i64 := ⟨by kernel_rfl, by kernel_rfl⟩
instance : CvT Tryz.prog 3 5 .u8 := ⟨by kernel_rfl, by kernel_rfl⟩
instance : CvT Tryz.prog 3 12 .u64 := ⟨by kernel_rfl, by kernel_rfl⟩
instance : CvT Tryz.prog 3 21 .i32 := ⟨by kernel_rfl, by kernel_rfl⟩
instance : CvT Tryz.prog 3 111 .u64 := ⟨by kernel_rfl, by kernel_rfl⟩
instance : CvT Tryz.prog 3 128 .u64 := ⟨by kernel_rfl, by kernel_rfl⟩
instance : CvT Tryz.prog 3 133 .u32 := ⟨by kernel_rfl, by kernel_rfl⟩
instance : CvT Tryz.prog 5 2 .i64 := ⟨by kernel_rfl, by kernel_rfl⟩
instance : CvT Tryz.prog 5 3 .i64 := ⟨by kernel_rfl, by kernel_rfl⟩
instance : CvT Tryz.prog 5 12 .u64 := ⟨by kernel_rfl, by kernel_rfl⟩
instance : CvT Tryz.prog 5 21 .i32 := ⟨by kernel_rfl, by kernel_rfl⟩
instance : CvT Tryz.prog 5 111 .u64 := ⟨by kernel_rfl, by kernel_rfl⟩
instance : CvT Tryz.prog 5 128 .u64 := ⟨by kernel_rfl, by kernel_rfl⟩
instance : CvT Tryz.prog 5 133 .u32 := ⟨by kernel_rfl, by kernel_rfl⟩
instance : CvT Tryz.prog 12 2 .i64 := ⟨by kernel_rfl, by kernel_rfl⟩
instance : CvT Tryz.prog 12 3 .i64 := ⟨by kernel_rfl, by kernel_rfl⟩
instance : CvT Tryz.prog 12 5 .u8 := ⟨by kernel_rfl, by kernel_rfl⟩
instance : CvT Tryz.prog 12 21 .i32 := ⟨by kernel_rfl, by kernel_rfl⟩
instance : CvT Tryz.prog 12 111 .u64 := ⟨by kernel_rfl, by kernel_rfl⟩
instance : CvT Tryz.prog 12 128 .u64 := ⟨by kernel_rfl, by kernel_rfl⟩
instance : CvT Tryz.prog 12 133 .u32 := ⟨by kernel_rfl, by kernel_rfl⟩
instance : CvT Tryz.prog 21 2 .i64 := ⟨by kernel_rfl, by kernel_rfl⟩
instance : CvT Tryz.prog 21 3 .i64 := ⟨by kernel_rfl, by kernel_rfl⟩
instance : CvT Tryz.prog 21 5 .u8 := ⟨by kernel_rfl, by kernel_rfl⟩
instance : CvT Tryz.prog 21 12 .u64 := ⟨by kernel_rfl, by kernel_rfl⟩
instance : CvT Tryz.prog 21 111 .u64 := ⟨by kernel_rfl, by kernel_rfl⟩
instance : CvT Tryz.prog 21 128 .u64 := ⟨by kernel_rfl, by kernel_rfl⟩
instance : CvT Tryz.prog 21 133 .u32 := ⟨by kernel_rfl, by kernel_rfl⟩
instance : CvT Tryz.prog 111 2 .i64 := ⟨by kernel_rfl, by kernel_rfl⟩
instance : CvT Tryz.prog 111 3 .i64 := ⟨by kernel_rfl, by kernel_rfl⟩
instance : CvT Tryz.prog 111 5 .u8 := ⟨by kernel_rfl, by kernel_rfl⟩
instance : CvT Tryz.prog 111 12 .u64 := ⟨by kernel_rfl, by kernel_rfl⟩
instance : CvT Tryz.prog 111 21 .i32 := ⟨by kernel_rfl, by kernel_rfl⟩
instance : CvT Tryz.prog 111 128 .u64 := ⟨by kernel_rfl, by kernel_rfl⟩
instance : CvT Tryz.prog 111 133 .u32 := ⟨by kernel_rfl, by kernel_rfl⟩
instance : CvT Tryz.prog 128 2 .i64 := ⟨by kernel_rfl, by kernel_rfl⟩
instance : CvT Tryz.prog 128 3 .i64 := ⟨by kernel_rfl, by kernel_rfl⟩
instance : CvT Tryz.prog 128 5 .u8 := ⟨by kernel_rfl, by kernel_rfl⟩
instance : CvT Tryz.prog 128 12 .u64 := ⟨by kernel_rfl, by kernel_rfl⟩
instance : CvT Tryz.prog 128 21 .i32 := ⟨by kernel_rfl, by kernel_rfl⟩
instance : CvT Tryz.prog 128 111 .u64 := ⟨by kernel_rfl, by kernel_rfl⟩
instance : CvT Tryz.prog 128 133 .u32 := ⟨by kernel_rfl, by kernel_rfl⟩
instance : CvT Tryz.prog 133 2 .i64 := ⟨by kernel_rfl, by kernel_rfl⟩
instance : CvT Tryz.prog 133 3 .i64 := ⟨by kernel_rfl, by kernel_rfl⟩
instance : CvT Tryz.prog 133 5 .u8 := ⟨by kernel_rfl, by kernel_rfl⟩
instance : CvT Tryz.prog 133 12 .u64 := ⟨by kernel_rfl, by kernel_rfl⟩
instance : CvT Tryz.prog 133 21 .i32 := ⟨by kernel_rfl, by kernel_rfl⟩
instance : CvT Tryz.prog 133 111 .u64 := ⟨by kernel_rfl, by kernel_rfl⟩
instance : CvT Tryz.prog 133 128 .u64 := ⟨by kernel_rfl, by kernel_rfl⟩
theorem mixed : Tryz.prog.follows .mixedOrders = true := by kernel_rfl
end Go.Proofs.YtfoecgfboicphaaGreatDoor
