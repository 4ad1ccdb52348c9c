/-
  Function values; variables that are captured; more rules.
-/
import Derived.Test.YtllgddednlfhfaaDoorEng14
namespace Go.Proofs.YtllgddednlfhfaaDoor
open Go.RowKit
set_option linter.unusedVariables false
set_option linter.unusedSimpArgs false

/-- An object that nobody writes any more: its block joins the zone. -/
theorem Good.retire {cx : Cx} {S : Nat → AV} {O : Nat → OB} {V : Nat → Prop} {a : Act} {w : World} {ρ : Nat → Value} {Z : Nat → Prop} (h : Good cx S O V a w ρ Z) {t : Nat} (hl : (O t).live = true) :
    Good cx S (lkf O [(t, .gone)]) V a w ρ (fun g => Z g ∨ blk (ρ t) = some g) := by
  refine ⟨h.size, h.defers, fun s => DA.mono (fun _ hz => .inl hz) (Same.refl _ _) (fun _ _ => rfl) (h.slot s), fun s => ?_, fun s s' g h1 h2 h3 h4 => ?_, fun s g h1 h2 => ?_, fun g hz => hz.elim (h.zlt g) (h.lt hl), fun s hs => ?_, h.os, h.tape, h.output, h.big, h.old, h.pin, h.vlo, ⟨fun g hz => .inl (h.zin.1 g hz), h.zin.2⟩, fun g hz => hz.elim (h.zout g) (fun hb => .inr (h.out t g hl hb).2)⟩
  · rw [lkf_one]
    split
    · trivial
    · exact DO.mono (fun _ hz => .inl hz) (Same.refl _ _) rfl (fun _ _ => rfl) (fun _ _ _ => rfl) (h.obj s)
  · have live_of : ∀ s, (lkf O [(t, .gone)] s).live = true → (O s).live = true := fun s hs => by
      rw [lkf_one] at hs
      split at hs
      · cases hs
      · exact hs
    exact h.sep s s' g (live_of s h1) (live_of s' h2) h3 h4
  · rw [lkf_one] at h1
    split at h1
    · cases h1
    · rename_i e
      refine ⟨fun hz => ?_, (h.out s g h1 h2).2⟩
      rcases hz with hz | hz
      · exact (h.out s g h1 h2).1 hz
      · exact e (h.sep s t g h1 hl h2 hz)
  · obtain ⟨h1, h2, h3⟩ := h.virgin s hs
    have hne : s ≠ t := fun e => by subst e; rw [h1] at hl; cases hl
    refine ⟨by rw [lkf_one, if_neg hne]; exact h1, h2, fun s' => ?_⟩
    rw [lkf_one]
    split
    · exact fun hm => by cases hm
    · exact h3 s'
/-- A slot is seen anew. -/
theorem Good.see {cx : Cx} {S : Nat → AV} {O : Nat → OB} {V : Nat → Prop} {a : Act} {w : World} {ρ : Nat → Value} {Z : Nat → Prop} (hg : Good cx S O V a w ρ Z) (s : Nat) {x : AV} (hx : DA ρ Z w x (a.tmps.getD s undef)) (ht : x.tags = []) :
    Good cx (lkf S [(s, x)]) O V a w ρ Z := by
  refine ⟨hg.size, hg.defers, fun t => ?_, hg.obj, hg.sep, hg.out, hg.zlt, fun t ht' => ?_, hg.os, hg.tape, hg.output, hg.big, hg.old, hg.pin, hg.vlo, hg.zin, hg.zout⟩
  · rw [lkf_one]
    split
    · rename_i e; subst e; exact hx
    · exact hg.slot t
  · obtain ⟨a1, a2, a3⟩ := hg.virgin t ht'
    refine ⟨a1, fun s' => ?_, a3⟩
    rw [lkf_one]
    split
    · rw [ht]; exact fun h => by cases h
    · exact a2 s'
section
variable {cx : Cx} {l : SL} {m : OL} {n : Nat}
/-- A variable of one cell that is written no more. -/
theorem le_retire (s t : Nat) {e : TypeId} {c : CV} (h : lk .dead l s = .ref t 0) (ho : lk .gone m t = .box e [.c c]) : Le cx l m n ((s, .imm [c]) :: l) ((t, .gone) :: m) n := by
  rintro a w ⟨ρ, Z, hg⟩
  have hl : (lk OB.gone m t).live = true := by rw [ho]; rfl
  have h1 := hg.retire hl
  have hob := hg.obj t
  rw [ho] at hob
  obtain ⟨g, us, h2, h3, h4⟩ := hob
  have hs := hg.slot s
  rw [h] at hs
  obtain ⟨g', o', h5, h6⟩ := hs
  rw [h2] at h5
  cases h5
  have hx : DA ρ (fun g => Z g ∨ blk (ρ t) = some g) w (.imm [c]) (a.tmps.getD s undef) := by
    obtain ⟨Z', hZ'⟩ : ∃ Z', Z' = fun g => Z g ∨ blk (ρ t) = some g := ⟨_, rfl⟩
    rw [← hZ']
    cases us with
    | nil => exact h4.elim
    | cons u us =>
      cases us with
      | cons _ _ => exact h4.2.elim
      | nil =>
        refine ⟨g, 0, [u], h6, by rw [hZ']; exact .inr (by rw [h2]; rfl), ⟨DC.mono (fun _ hz => by rw [hZ']; exact .inl hz) (Same.refl _ _) h4.1, trivial⟩, fun k v hk => ?_⟩
        cases k with
        | zero => rw [World.cell?, h3]; simpa using hk
        | succ k => simp at hk
  exact ⟨ρ, _, h1.see s hx rfl⟩
end

section
variable {P : Program} {R : List (Operand × AV)} {RO : List (Nat × OB)}
variable {d : Nat} {x y z : Operand} {t t' ty : TypeId} {pos : String} {af : Array Edge} {gd : Option (Nat × Bool)}
/-! ### function values -/
theorem opx_mkfn1 {f : FuncId} {xs : List CV} : OpX P ⟨some d, .makeFunc (.func f) #[] #[x], ty, pos, af, gd⟩ [(x, .imm xs)] [] [] [(d, .r (.one (.fn f none [xs])))] [] :=
  opx_val rfl fun cx S O V a w ρ Z hg hR _ => by
    have h := hg.ag hR.1
    refine ⟨.func (.func f) #[] #[a.eval x], by simp [execOp, Instr.makeFunc], ⟨[], [a.eval x], rfl, rfl, h, trivial⟩, fun t ht => by cases ht⟩
theorem opx_mkfn2 {f : FuncId} {xs ys : List CV} : OpX P ⟨some d, .makeFunc (.func f) #[] #[x, y], ty, pos, af, gd⟩ [(x, .imm xs), (y, .imm ys)] [] [] [(d, .r (.one (.fn f none [xs, ys])))] [] :=
  opx_val rfl fun cx S O V a w ρ Z hg hR _ => by
    have h := hg.ag hR.1
    have h2 := hg.ag hR.2.1
    refine ⟨.func (.func f) #[] #[a.eval x, a.eval y], by simp [execOp, Instr.makeFunc], ⟨[], [a.eval x, a.eval y], rfl, rfl, h, h2, trivial⟩, fun t ht => by cases ht⟩
theorem run_call_fn {a : Act} {f : FuncId} {xs : List Operand} {ats : Array TypeId} {fs cs : List Value} (hv : a.eval x = .func (.func f) fs.toArray cs.toArray) (h : fnOk P f = true) (w : World) :
    (execOp a.eval ⟨some d, .call { callee := .value x, args := xs.toArray, argTypes := ats }, ty, pos, af, gd⟩).run P w = .ok (.enter f (fs ++ xs.map a.eval ++ cs).toArray) w := by
  rw [← run_callFunc h]
  simp [execOp, resolve, hv, Deferred.ofValue, invoke]
/-- A call whose results are plain, whatever stands as the callee. -/
theorem opx_enter {op : Op} {f : FuncId} {args rs0 : List AR}
    (hc : Con P f args [] (fun rs all => rs = rs0 ∧ all = [])) (hr : rs0.all rawAR = true)
    (H : ∀ (cx : Cx) (S : Nat → AV) (O : Nat → OB) (V : Nat → Prop) (a : Act) (w : World) (ρ : Nat → Value) (Z : Nat → Prop), Good cx S O V a w ρ Z → AgL S R → OgL O RO →
      ∃ vs : List Value, (execOp a.eval ⟨some d, op, ty, pos, af, none⟩).run P w = .ok (.enter f vs.toArray) w ∧ DRL ρ (fun g => Z g ∨ RowZ O ρ g) w args vs) :
    OpX P ⟨some d, op, ty, pos, af, none⟩ R RO [] [(d, mkRes rs0)] [] := by
  rintro cx S O V a w hR hO _ hU ⟨ρ, Z, hg⟩ K Q hK
  obtain ⟨vs, hexec, hdr⟩ := H cx S O V a w ρ Z hg hR hO
  have hent : Entry w (fun t => ρ t) (fun g => Z g ∨ RowZ O ρ g) args [] vs := by
    refine ⟨hdr, fun i => by simp [obAt]; trivial, fun i j g h1 => by simp [obAt, OB.live] at h1, fun i g h1 => by simp [obAt, OB.live] at h1, fun g h => ?_, hg.gl.mono (fun _ h => .inl h) (Same.refl _ _)⟩
    rcases h with h | ⟨t, wd, e, rows, h1, h2⟩
    · exact hg.zlt g h
    · exact hg.lt (by rw [h1]; rfl) h2
  have hcall := hc.run w _ _ _ hent
  unfold Oper.wp
  rw [hexec, Oper.upon_enter]
  refine hcall.mono fun e w' ⟨rs, all, us, ρ', Z', hpost, hlen, he, hl⟩ => ?_
  subst he
  obtain ⟨rfl, rfl⟩ := hpost
  have hgr : w.grownBy w' none := ⟨hl.os, hl.tape, hl.output, hl.size, fun g hg _ => hl.old g hg (by rintro ⟨i, h1, _⟩; simp [obAt, OB.live] at h1)⟩
  have hG := hg.grow hgr
  rw [List.all_eq_true] at hr
  have hres : DRL ρ Z w' rs us := DRL.mono (fun _ h => h) (Same.refl _ _) (fun x hx t ht => by rw [rawAR_tags (hr x hx)] at ht; cases ht) (hl.res.flat (Z' := Z) (List.all_eq_true.2 fun x hx => rawAR_flat (hr x hx)))
  have hda : DA ρ Z w' (mkRes rs) (mkRet us) := by
    match rs, us, hres with
    | [], [], _ => exact ⟨[], rfl, trivial⟩
    | [r], [u], h => exact h.1
    | r :: r2 :: rs, u :: u2 :: us, h => exact ⟨_, rfl, h⟩
  refine hK _ _ ⟨ρ, Z, (hG.put (blt_lt hU.1) hda fun s hs _ => ?_).weak fun t ht => ht.1⟩
  have : ∀ r ∈ rs, s ∉ r.tags := fun r hr' h => by rw [rawAR_tags (hr r hr')] at h; cases h
  match rs, hs with
  | [], hs => simp [mkRes, AV.tags] at hs
  | [r], hs => exact this r (.head _) hs
  | r :: r2 :: rs, hs =>
    simp only [mkRes, AV.tags, List.mem_flatMap] at hs
    obtain ⟨r', h6, h7⟩ := hs
    exact this r' h6 h7
theorem drl_append {ρ : Nat → Value} {Z : Nat → Prop} {w : World} : ∀ {xs ys : List AR} {us vs : List Value}, DRL ρ Z w xs us → DRL ρ Z w ys vs → DRL ρ Z w (xs ++ ys) (us ++ vs)
  | [], _, [], _, _, h => h
  | _ :: _, _, _ :: _, _, h1, h => ⟨h1.1, drl_append h1.2 h⟩
  | [], _, _ :: _, _, h, _ => h.elim
  | _ :: _, _, [], _, h, _ => h.elim
def capAR (caps : List (List CV)) : List AR := caps.map fun c => .one (.imm c)
theorem dil_drl {ρ : Nat → Value} {Z : Nat → Prop} {w : World} : ∀ {caps : List (List CV)} {cs : List Value}, DIL Z w caps cs → DRL ρ Z w (capAR caps) cs
  | [], [], _ => trivial
  | _ :: _, _ :: _, h => ⟨h.1, dil_drl h.2⟩
  | [], _ :: _, h => h.elim
  | _ :: _, [], h => h.elim
theorem opx_callfn {g : FuncId} {caps : List (List CV)} {xs : List Operand} {ats : Array TypeId} {args rs0 : List AR}
    (hc : Con P g (args ++ capAR caps) [] (fun rs all => rs = rs0 ∧ all = [])) (hr : rs0.all rawAR = true) (hx : ∀ S : Nat → AV, AgL S R → Ag S x (.r (.one (.fn g none caps)))) (ha : ∀ (S : Nat → AV) (O : Nat → OB) (f : Nat → Nat), AgL S R → OgL O RO → Args S O f true xs args) :
    OpX P ⟨some d, .call { callee := .value x, args := xs.toArray, argTypes := ats }, ty, pos, af, none⟩ R RO [] [(d, mkRes rs0)] [] :=
  opx_enter hc hr fun cx S O V a w ρ Z hg hR hO => by
    obtain ⟨fs, cs, h1, h2, h3⟩ := hg.ag (hx S hR)
    cases h2
    refine ⟨_, run_call_fn h1 hc.ok w, ?_⟩
    have h4 := (ha S O (fun t => t) hR hO).drl hg (Zc := fun g => Z g ∨ RowZ O ρ g) (fun _ h => .inl h) (fun _ _ h => .inr h)
    exact drl_append h4 (dil_drl (h3.mono (fun _ h => .inl h) (Same.refl _ _)))
/-! ### shifts, conversions -/
theorem opx_shr1 {m : Int} (h : 0 ≤ m) : OpX P ⟨some d, .binOp .shr t x y t', ty, pos, af, gd⟩ [(x, .raw (.int .u64 m)), (y, .raw (.int .u64 1))] [] [] [(d, .raw (.int .u64 (m / 2)))] [] :=
  opx_int .shr .u64 m 1 _ rfl fun w x y => by
    simp [eqGuard, binOp, shift_shr_any, IntKind.bits]
/-! ### '==' of structs of two numbers, of two texts -/
def isI64 (P : Program) (t : TypeId) : Bool := match P.underlying t with | some (.int .i64) => true | _ => false
def isStr (P : Program) (t : TypeId) : Bool := match P.underlying t with | some .string => true | _ => false
def isStc (P : Program) (t : TypeId) : Bool := match P.underlying t with | some (.struct _) => true | _ => false
def eq2B (P : Program) (t : TypeId) (k : TypeId → Bool) : Bool :=
  (match (P.fieldsOf t).toList with
  | [f, g] => f.name != "_" && g.name != "_" && f.offset == 0 && g.offset == 1 && k f.type && k g.type
  | _ => false) && isStc P t && !P.stoodInHeld t && !P.eqGuardType P.depth t
class EqP (P : Program) (t : TypeId) : Prop where
  ok : eq2B P t (isI64 P) = true
class EqS (P : Program) (t : TypeId) : Prop where
  ok : eq2B P t (isStr P) = true
theorem eq2_of {k : TypeId → Bool} (h : eq2B P t k = true) : ∃ f g : Field, (P.fieldsOf t).toList = [f, g] ∧ f.name ≠ "_" ∧ g.name ≠ "_" ∧ f.offset = 0 ∧ g.offset = 1 ∧ k f.type = true ∧ k g.type = true ∧
    P.underlying t = some (.struct (P.fieldsOf t)) ∧ P.stoodInHeld t = false ∧ P.eqGuardType P.depth t = false := by
  simp only [eq2B, Bool.and_eq_true, Bool.not_eq_true'] at h
  obtain ⟨⟨⟨h1, h2⟩, h3⟩, h4⟩ := h
  have h5 : P.underlying t = some (.struct (P.fieldsOf t)) := by
    unfold isStc at h2
    unfold Program.fieldsOf
    split at h2
    · rename_i fs he; rw [he]
    · cases h2
  split at h1
  · rename_i f g he
    simp only [Bool.and_eq_true, bne_iff_ne, ne_eq, beq_iff_eq] at h1
    exact ⟨f, g, he, h1.1.1.1.1.1, h1.1.1.1.1.2, h1.1.1.1.2, h1.1.1.2, h1.1.2, h1.2, h5, h3, h4⟩
  · cases h1
theorem run_part1 {w : World} {e : TypeId} (he : isI64 P e = true ∨ isStr P e = true) {xs : Array Value} {off : Nat} {v : Value} (hx : xs[off]? = some v) : (part e xs off).run P w = .ok v w := by
  rcases he with he | he
  · unfold isI64 at he
    split at he
    · rename_i hu; simp [part, isAgg, run_underlying hu, hx]
    · cases he
  · unfold isStr at he
    split at he
    · rename_i hu; simp [part, isAgg, run_underlying hu, hx]
    · cases he
theorem isI64_of {e : TypeId} (he : isI64 P e = true) : P.underlying e = some (.int .i64) := by
  unfold isI64 at he
  split at he
  · assumption
  · cases he
theorem isStr_of {e : TypeId} (he : isStr P e = true) : P.underlying e = some .string := by
  unfold isStr at he
  split at he
  · assumption
  · cases he
theorem run_eqP (w : World) (h : EqP P t) (a b c e : Int) : (Op.equalIn 10000 t (.agg #[.int .i64 a, .int .i64 b]) (.agg #[.int .i64 c, .int .i64 e])).run P w = .ok (decide (a = c ∧ b = e)) w := by
  obtain ⟨f, g, h1, h2, h3, h4, h5, h6, h7, h8, h9, h10⟩ := eq2_of h.ok
  rw [run_equalIn_agg w 9999 t _ _ h8 h9, h1]
  have p1 : ∀ (x y : Value), (part f.type #[x, y] f.offset).run P w = .ok x w := fun x y => run_part1 (.inl h6) (by rw [h4]; rfl)
  have p2 : ∀ (x y : Value), (part g.type #[x, y] g.offset).run P w = .ok y w := fun x y => run_part1 (.inl h7) (by rw [h5]; rfl)
  simp only [Op.eqFields, if_pos h2, if_pos h3, Sem.run_bind, p1, p2, Result.andThen_ok, run_equalIn_int w 9998 _ .i64 .i64 _ _ (isI64_of h6), run_equalIn_int w 9998 _ .i64 .i64 _ _ (isI64_of h7)]
  by_cases ha : a = c <;> by_cases hb : b = e <;> simp [ha, hb, p2, run_equalIn_int w 9998 _ .i64 .i64 _ _ (isI64_of h7)]
theorem run_eqS (w : World) (h : EqS P t) (a b c e : List UInt8) : (Op.equalIn 10000 t (.agg #[.string ⟨a.toArray⟩, .string ⟨b.toArray⟩]) (.agg #[.string ⟨c.toArray⟩, .string ⟨e.toArray⟩])).run P w = .ok (decide (a = c ∧ b = e)) w := by
  obtain ⟨f, g, h1, h2, h3, h4, h5, h6, h7, h8, h9, h10⟩ := eq2_of h.ok
  rw [run_equalIn_agg w 9999 t _ _ h8 h9, h1]
  have p1 : ∀ (x y : Value), (part f.type #[x, y] f.offset).run P w = .ok x w := fun x y => run_part1 (.inr h6) (by rw [h4]; rfl)
  have p2 : ∀ (x y : Value), (part g.type #[x, y] g.offset).run P w = .ok y w := fun x y => run_part1 (.inr h7) (by rw [h5]; rfl)
  have q : ∀ m n : List UInt8, ((⟨m.toArray⟩ : ByteArray).toList == (⟨n.toArray⟩ : ByteArray).toList) = decide (m = n) := fun m n => by
    rw [ByteArray.toList_eq, ByteArray.toList_eq, Bool.eq_iff_iff]; simp
  simp only [Op.eqFields, if_pos h2, if_pos h3, Sem.run_bind, p1, p2, Result.andThen_ok, run_equalIn_string w 9998 _ _ _ (isStr_of h6), run_equalIn_string w 9998 _ _ _ (isStr_of h7), q]
  by_cases ha : a = c <;> by_cases hb : b = e <;> simp [ha, hb, p2, run_equalIn_string w 9998 _ _ _ (isStr_of h7), q]
theorem agg2_val {ρ : Nat → Value} {Z : Nat → Prop} {w : World} {u u' v : Value} (h : DA ρ Z w (.agg [.c (.raw u), .c (.raw u')]) v) : v = .agg #[u, u'] := by
  obtain ⟨us, h1, h2⟩ := h
  match us, h2 with
  | [a, b], h2 =>
    have e1 : a = u := da_raw (ρ := ρ) (Z := Z) (w := w) (show DA ρ Z w (.raw u) a from h2.1)
    have e2 : b = u' := da_raw (ρ := ρ) (Z := Z) (w := w) (show DA ρ Z w (.raw u') b from h2.2.1)
    rw [h1, e1, e2]
  | [], h2 => exact h2.elim
  | [_], h2 => exact h2.2.elim
  | _ :: _ :: _ :: _, h2 => exact h2.2.2.elim
theorem opx_eqP [hT : EqP P t] {a b c e : Int} : OpX P ⟨some d, .binOp .eql t x y t', ty, pos, af, gd⟩ [(x, .agg [.c (.raw (.int .i64 a)), .c (.raw (.int .i64 b))]), (y, .agg [.c (.raw (.int .i64 c)), .c (.raw (.int .i64 e))])] [] [] [(d, .b (decide (a = c ∧ b = e)))] [] :=
  opx_val rfl fun cx S O V aa w ρ Z hg hR hO => by
    refine ⟨.bool (decide (a = c ∧ b = e)), ?_, da_mk rfl, by simp [AV.tags, AR.tags, A1.tag]⟩
    obtain ⟨f, g, h1, h2, h3, h4, h5, h6, h7, h8, h9, h10⟩ := eq2_of hT.ok
    simp only [execOp, agg2_val (hg.ag hR.1), agg2_val (hg.ag hR.2.1), Sem.run_bind, run_eqGuard_agg w .eql t x y _ _ h10, Result.andThen_ok, run_eql_struct, run_eqP w hT, Sem.run_pure]
theorem opx_neP [hT : EqP P t] {a b c e : Int} : OpX P ⟨some d, .binOp .neq t x y t', ty, pos, af, gd⟩ [(x, .agg [.c (.raw (.int .i64 a)), .c (.raw (.int .i64 b))]), (y, .agg [.c (.raw (.int .i64 c)), .c (.raw (.int .i64 e))])] [] [] [(d, .b (!decide (a = c ∧ b = e)))] [] :=
  opx_val rfl fun cx S O V aa w ρ Z hg hR hO => by
    refine ⟨.bool (!decide (a = c ∧ b = e)), ?_, da_mk rfl, by simp [AV.tags, AR.tags, A1.tag]⟩
    obtain ⟨f, g, h1, h2, h3, h4, h5, h6, h7, h8, h9, h10⟩ := eq2_of hT.ok
    simp only [execOp, agg2_val (hg.ag hR.1), agg2_val (hg.ag hR.2.1), Sem.run_bind, run_eqGuard_agg w .neq t x y _ _ h10, Result.andThen_ok, run_neq_struct, run_eqP w hT, Sem.run_pure]
theorem opx_eqS [hT : EqS P t] {a b c e : List UInt8} : OpX P ⟨some d, .binOp .eql t x y t', ty, pos, af, gd⟩ [(x, .agg [.c (.raw (.string ⟨a.toArray⟩)), .c (.raw (.string ⟨b.toArray⟩))]), (y, .agg [.c (.raw (.string ⟨c.toArray⟩)), .c (.raw (.string ⟨e.toArray⟩))])] [] [] [(d, .b (decide (a = c ∧ b = e)))] [] :=
  opx_val rfl fun cx S O V aa w ρ Z hg hR hO => by
    refine ⟨.bool (decide (a = c ∧ b = e)), ?_, da_mk rfl, by simp [AV.tags, AR.tags, A1.tag]⟩
    obtain ⟨f, g, h1, h2, h3, h4, h5, h6, h7, h8, h9, h10⟩ := eq2_of hT.ok
    simp only [execOp, agg2_val (hg.ag hR.1), agg2_val (hg.ag hR.2.1), Sem.run_bind, run_eqGuard_agg w .eql t x y _ _ h10, Result.andThen_ok, run_eql_struct, run_eqS w hT, Sem.run_pure]
theorem opx_neS [hT : EqS P t] {a b c e : List UInt8} : OpX P ⟨some d, .binOp .neq t x y t', ty, pos, af, gd⟩ [(x, .agg [.c (.raw (.string ⟨a.toArray⟩)), .c (.raw (.string ⟨b.toArray⟩))]), (y, .agg [.c (.raw (.string ⟨c.toArray⟩)), .c (.raw (.string ⟨e.toArray⟩))])] [] [] [(d, .b (!decide (a = c ∧ b = e)))] [] :=
  opx_val rfl fun cx S O V aa w ρ Z hg hR hO => by
    refine ⟨.bool (!decide (a = c ∧ b = e)), ?_, da_mk rfl, by simp [AV.tags, AR.tags, A1.tag]⟩
    obtain ⟨f, g, h1, h2, h3, h4, h5, h6, h7, h8, h9, h10⟩ := eq2_of hT.ok
    simp only [execOp, agg2_val (hg.ag hR.1), agg2_val (hg.ag hR.2.1), Sem.run_bind, run_eqGuard_agg w .neq t x y _ _ h10, Result.andThen_ok, run_neq_struct, run_eqS w hT, Sem.run_pure]
theorem wrap_u64 {n : Int} (h : 0 ≤ n ∧ n ≤ 18446744073709551615) : IntKind.u64.wrap n = n := by
  unfold IntKind.wrap
  simp [IntKind.bits, IntKind.signed]
  omega
end
section
variable {P : Program} {ops : Array Oper} {cx : Cx} {Q : APost} {rest : List Oper} {l : SL} {m : OL} {n : Nat}
variable {d : Nat} {ty : TypeId} {pos : String} {af : Array Edge} {f : FuncId} {xs : List Operand} {ats : Array TypeId} {args rs0 : List AR} {x : Operand}
theorem al_callfn2 {g : FuncId} {caps : List (List CV)} (hx : Ag (lk .dead l) x (.r (.one (.fn g none caps)))) (ha : ArgsX (lk .dead l) (lk .gone m) xs args) (hd : Nat.blt d cx.N = true) (hc : Con P g (args ++ capAR caps) [] (fun rs all => rs = rs0 ∧ all = [])) (hr : rs0.all rawAR = true)
    (k : AL P ops cx Q rest ((d, mkRes rs0) :: l) m n) :
    AL P ops cx Q (⟨some d, .call { callee := .value x, args := xs.toArray, argTypes := ats }, ty, pos, af, none⟩ :: rest) l m n := by
  obtain ⟨h1, h2, h3⟩ := ha.d.ok
  exact al_v (opx_callfn (R := (x, .r (.one (.fn g none caps))) :: argR (lk .dead l) xs) hc hr (fun S hS => hS.1) (fun S O f hS hO => h3 S O f hS.2 hO)) ⟨hx, h1⟩ h2 hd k
theorem ad_callfn2 {ol : List Oper} {done : List Keys} {g : FuncId} {caps : List (List CV)} (hx : Ag (lk .dead l) x (.r (.one (.fn g none caps)))) (ha : ArgsX (lk .dead l) (lk .gone m) xs args) (hd : Nat.blt d cx.N = true) (hc : Con P g (args ++ capAR caps) [] (fun rs all => rs = rs0 ∧ all = [])) (hr : rs0.all rawAR = true)
    (k : AD P ol cx Q (⟨rtmps ((x, .r (.one (.fn g none caps))) :: argR (lk .dead l) xs), [d], (argO (lk .dead l) (lk .gone m) xs).map (·.1), [], []⟩ :: done) rest ((d, mkRes rs0) :: l) m n) :
    AD P ol cx Q done (⟨some d, .call { callee := .value x, args := xs.toArray, argTypes := ats }, ty, pos, af, none⟩ :: rest) l m n := by
  obtain ⟨h1, h2, h3⟩ := ha.d.ok
  exact ad_v (opx_callfn (R := (x, .r (.one (.fn g none caps))) :: argR (lk .dead l) xs) hc hr (fun S hS => hS.1) (fun S O f hS hO => h3 S O f hS.2 hO)) ⟨hx, h1⟩ h2 hd k
/-- A call that writes one slice of the caller's own. -/
theorem al_mark {wd : Nat} {e : TypeId} {rows rows' : List (List CV)} {r : Value} (t : Nat) (hm : lk .gone m t = .row wd e rows) (ht : Nat.blt t n = true) (ha : Args (lk .dead l) (lk .gone m) (cpi [t] n) false xs args) (hd : Nat.blt d cx.N = true)
    (hc : Con P f args [.row wd e rows] (fun rs all => rs = [.one (.c (.raw r))] ∧ all = [.row wd e rows'])) (k : AL P ops cx Q rest ((d, .raw r) :: l) ((t, .row wd e rows') :: m) n) :
    AL P ops cx Q (⟨some d, .call { callee := .value (.func f), args := xs.toArray, argTypes := ats }, ty, pos, af, none⟩ :: rest) l m n :=
  al_call_m [t] hc (by simp [nodupB, ht]) ⟨hm, trivial⟩ ha hd fun rs all _ ⟨h1, h2⟩ => by
    subst h1 h2
    exact k
/-- A function literal over two variables that are written no more. -/
theorem al_mkfn2 {s1 s2 t1 t2 : Nat} {e1 e2 : TypeId} {a b : CV} (h1 : lk .dead l s1 = .ref t1 0) (h2 : lk .dead l s2 = .ref t2 0) (o1 : lk .gone m t1 = .box e1 [.c a]) (o2 : lk .gone m t2 = .box e2 [.c b]) (hs : Nat.beq s1 s2 = false) (ht : Nat.beq t1 t2 = false) (hd : Nat.blt d cx.N = true)
    (k : AL P ops cx Q rest ((d, .r (.one (.fn f none [[a], [b]]))) :: (s2, .imm [b]) :: (s1, .imm [a]) :: l) ((t2, .gone) :: (t1, .gone) :: m) n) :
    AL P ops cx Q (⟨some d, .makeFunc (.func f) #[] #[.tmp s1, .tmp s2], ty, pos, af, none⟩ :: rest) l m n := by
  refine al_le (le_retire s1 t1 h1 o1) ?_
  have hs' : Nat.beq s2 s1 = false := beq_ne (fun e => by subst e; rw [beq_self] at hs; cases hs)
  refine al_le (le_retire s2 t2 (by simp only [lk, hs, cond]; exact h2) (by simp only [lk, ht, cond]; exact o2)) ?_
  exact al_v opx_mkfn2 ⟨by simp [Ag, vl, lk, hs', beq_self], by simp [Ag, vl, lk, beq_self], trivial⟩ trivial hd k
theorem al_mkfn1 {s1 t1 : Nat} {e1 : TypeId} {a : CV} (h1 : lk .dead l s1 = .ref t1 0) (o1 : lk .gone m t1 = .box e1 [.c a]) (hd : Nat.blt d cx.N = true)
    (k : AL P ops cx Q rest ((d, .r (.one (.fn f none [[a]]))) :: (s1, .imm [a]) :: l) ((t1, .gone) :: m) n) :
    AL P ops cx Q (⟨some d, .makeFunc (.func f) #[] #[.tmp s1], ty, pos, af, none⟩ :: rest) l m n := by
  refine al_le (le_retire s1 t1 h1 o1) ?_
  exact al_v opx_mkfn1 ⟨by simp [Ag, vl, lk, beq_self], trivial⟩ trivial hd k
end
end Go.Proofs.YtllgddednlfhfaaDoor
