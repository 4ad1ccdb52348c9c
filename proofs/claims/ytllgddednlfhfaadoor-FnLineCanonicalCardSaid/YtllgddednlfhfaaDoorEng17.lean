/-
  Calls in drawn regions whose answers are values with memory of their own.
-/
import Derived.Test.YtllgddednlfhfaaDoorEng16
namespace Go.Proofs.YtllgddednlfhfaaDoor
open Go.RowKit
set_option linter.unusedVariables false
set_option linter.unusedSimpArgs false

theorem Good.callF {cx : Cx} {S : Nat → AV} {O : Nat → OB} {V : Nat → Prop} {a : Act} {w w' : World} {ρ ρ' : Nat → Value} {Z Z' : Nat → Prop} {ρ0 : Nat → Value} {d : Nat} {rs : List AR} {us : List Value}
    (h : Good cx S O V a w ρ Z) (hl : Leave w ρ0 Z [] w' ρ' Z' rs [] us) (ht : noTags rs = true) (hd : d < cx.N) :
    Good cx (lkf S [(d, mkRes rs)]) O V (a.put (some d) (mkRet us)) w' ρ Z' := by
  have hno : ∀ g, ¬ Wr [] ρ0 g := by rintro g ⟨i, h1, _⟩; simp [obAt, OB.live] at h1
  have hold : ∀ g, g < w.heap.size → w'.heap[g]? = w.heap[g]? := fun g hg => hl.old g hg (hno g)
  have hsame : Same Z w w' := fun g hz => hold g (h.zlt g hz)
  have hznew : ∀ g, Z' g → Z g ∨ w.heap.size ≤ g := fun g hz => by
    rcases hl.znew g hz with h1 | h1 | h1
    · exact .inl h1
    · exact .inr h1
    · exact absurd h1 (hno g)
  have hG : Good cx S O V a w' ρ Z' := by
    refine ⟨h.size, h.defers, fun t => DA.mono hl.zmono hsame (fun _ _ => rfl) (h.slot t), fun t => DO.mono hl.zmono hsame rfl (fun _ _ => rfl) (fun hv g hg => hold g (h.lt hv hg)) (h.obj t), h.sep, fun t g h1 h2 => ⟨fun hz => ?_, (h.out t g h1 h2).2⟩, hl.zlt, h.virgin,
      hl.os.trans h.os, hl.tape.trans h.tape, hl.output.trans h.output, Nat.le_trans h.big hl.size, fun g hg hm => (hold g (by have := h.big; omega)).trans (h.old g hg hm), h.pin, h.vlo, ⟨fun g hz => hl.zmono g (h.zin.1 g hz), h.zin.2⟩, fun g hz => ?_⟩
    · rcases hznew g hz with h3 | h3
      · exact (h.out t g h1 h2).1 h3
      · have := h.lt h1 h2; omega
    · rcases hznew g hz with h3 | h3
      · exact h.zout g h3
      · exact .inr (.inl (by have := h.big; omega))
  rw [noTags, List.all_eq_true] at ht
  have hr : ∀ r ∈ rs, r.tags = [] := fun r hr => List.isEmpty_iff.1 (ht r hr)
  have hres : DRL ρ Z' w' rs us := DRL.mono (fun _ h => h) (Same.refl _ _) (fun x hx t hxt => by rw [hr x hx] at hxt; cases hxt) hl.res
  have hda : DA ρ Z' w' (mkRes rs) (mkRet us) := by
    match rs, us, hres with
    | [], [], _ => exact ⟨[], rfl, trivial⟩
    | [r], [u], h => exact h.1
    | r :: r2 :: rs, u :: u2 :: us, h => exact ⟨_, rfl, h⟩
  refine hG.put hd hda fun s hs _ => ?_
  have : ∀ r ∈ rs, s ∉ r.tags := fun r hr' h => by rw [hr r hr'] at h; cases h
  match rs, hs with
  | [], hs => simp [mkRes, AV.tags] at hs
  | [r], hs => exact this r (.head _) hs
  | r :: r2 :: rs, hs =>
    simp only [mkRes, AV.tags, List.mem_flatMap] at hs
    obtain ⟨r', h6, h7⟩ := hs
    exact this r' h6 h7
/-- Arguments that are values, or slices written no more. -/
inductive ArgsY (S : Nat → AV) (O : Nat → OB) : List Operand → List AR → Prop where
  | nil : ArgsY S O [] []
  | one {x : Operand} {r : AR} {xs : List Operand} {rs : List AR} : Ag S x (.r r) → r.tags = [] → ArgsY S O xs rs → ArgsY S O (x :: xs) (r :: rs)
  | froz {x : Operand} {t wd : Nat} {rows : List (List CV)} {xs : List Operand} {rs : List AR} : Ag S x (.own t) → O t = .froz wd rows → ArgsY S O xs rs → ArgsY S O (x :: xs) (.one (.c (.sl wd rows)) :: rs)
  | rnil {x : Operand} {wd : Nat} {xs : List Operand} {rs : List AR} : Ag S x (.raw (.slice none 0 0)) → ArgsY S O xs rs → ArgsY S O (x :: xs) (.one (.c (.sl wd [])) :: rs)
theorem ArgsY.ok {S : Nat → AV} {O : Nat → OB} {xs : List Operand} {rs : List AR} (h : ArgsY S O xs rs) : AgL S (argR S xs) ∧ OgL O (argO S O xs) ∧
    ∀ (S' : Nat → AV) (O' : Nat → OB) (f : Nat → Nat), AgL S' (argR S xs) → OgL O' (argO S O xs) → Args S' O' f false xs rs := by
  induction h with
  | nil => exact ⟨trivial, trivial, fun _ _ _ _ _ => .nil⟩
  | one h1 h2 _ ih =>
    have e : vl S _ = _ := h1
    simp only [argR, argO, List.map_cons, List.flatMap_cons, e, argO1_c h2, List.nil_append]
    exact ⟨⟨h1, ih.1⟩, ih.2.1, fun S' O' f hR hO => .one hR.1 h2 (ih.2.2 S' O' f hR.2 hO)⟩
  | froz h1 h2 _ ih =>
    have e : vl S _ = _ := h1
    simp only [argR, argO, List.map_cons, List.flatMap_cons, e, argO1, h2, List.cons_append, List.nil_append]
    exact ⟨⟨h1, ih.1⟩, ⟨h2, ih.2.1⟩, fun S' O' f hR hO => .froz hR.1 hO.1 (ih.2.2 S' O' f hR.2 hO.2)⟩
  | rnil h1 _ ih =>
    have e : vl S _ = _ := h1
    simp only [argR, argO, List.map_cons, List.flatMap_cons, e, argO1, List.nil_append]
    exact ⟨⟨h1, ih.1⟩, ih.2.1, fun S' O' f hR hO => .rnil hR.1 (ih.2.2 S' O' f hR.2 hO)⟩
theorem opx_callF {P : Program} {R : List (Operand × AV)} {RO : OL} {f : FuncId} {xs : List Operand} {ats : Array TypeId} {args rs0 : List AR} {d : Nat} {ty : TypeId} {pos : String} {af : Array Edge}
    (hc : Con P f args [] (fun rs all => rs = rs0 ∧ all = [])) (ht : noTags rs0 = true) (ha : ∀ (S : Nat → AV) (O : Nat → OB) (f : Nat → Nat), AgL S R → OgL O RO → Args S O f false xs args) :
    OpX P ⟨some d, .call { callee := .value (.func f), args := xs.toArray, argTypes := ats }, ty, pos, af, none⟩ R RO [] [(d, mkRes rs0)] [] := by
  rintro cx S O V a w hR hO _ hU ⟨ρ, Z, hg⟩ K Q hK
  have hent : Entry w (fun t => ρ t) Z args [] (xs.map a.eval) :=
    ⟨(ha S O (fun t => t) hR hO).drl hg (fun _ h => h) (fun h => by cases h), fun i => by simp [obAt]; trivial, fun i j g h1 => by simp [obAt, OB.live] at h1, fun i g h1 => by simp [obAt, OB.live] at h1, hg.zlt, hg.gl⟩
  have hcall := hc.run w _ _ _ hent
  unfold Oper.wp
  have hexec : (execOp a.eval ⟨some d, .call { callee := .value (.func f), args := xs.toArray, argTypes := ats }, ty, pos, af, none⟩).run P w = .ok (.enter f (xs.map a.eval).toArray) w := by
    rw [execOp_call_go, run_callFunc hc.ok]
    simp
  rw [hexec, Oper.upon_enter]
  refine hcall.mono fun e w' ⟨rs, all, us, ρ', Z', hpost, hlen, he, hl⟩ => ?_
  subst he
  obtain ⟨rfl, rfl⟩ := hpost
  exact hK _ _ ⟨ρ, Z', (hg.callF hl ht (blt_lt hU.1)).weak fun t h => h.1⟩
section
variable {P : Program} {ol : List Oper} {cx : Cx} {Q : APost} {done : List Keys} {rest : List Oper} {l : SL} {m : OL} {n : Nat}
variable {d : Nat} {ty : TypeId} {pos : String} {af : Array Edge} {f : FuncId} {xs : List Operand} {ats : Array TypeId} {args rs0 : List AR}
theorem ad_callF2 (ha : ArgsY (lk .dead l) (lk .gone m) xs args) (hd : Nat.blt d cx.N = true) (hc : Con P f args [] (fun rs all => rs = rs0 ∧ all = [])) (ht : noTags rs0 = true)
    (k : AD P ol cx Q (⟨rtmps (argR (lk .dead l) xs), [d], (argO (lk .dead l) (lk .gone m) xs).map (·.1), [], []⟩ :: done) rest ((d, mkRes rs0) :: l) m n) :
    AD P ol cx Q done (⟨some d, .call { callee := .value (.func f), args := xs.toArray, argTypes := ats }, ty, pos, af, none⟩ :: rest) l m n := by
  obtain ⟨h1, h2, h3⟩ := ha.ok
  exact ad_v (opx_callF hc ht h3) h1 h2 hd k
end
end Go.Proofs.YtllgddednlfhfaaDoor
