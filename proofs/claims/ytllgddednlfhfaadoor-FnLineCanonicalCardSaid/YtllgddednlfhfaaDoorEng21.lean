/-
  Calls in drawn regions that write one object of the caller's (a reader), with answers known.
-/
import Derived.Test.YtllgddednlfhfaaDoorEng20
namespace Go.Proofs.YtllgddednlfhfaaDoor
open Go.RowKit
set_option linter.unusedVariables false
set_option linter.unusedSimpArgs false

theorem Good.callO {cx : Cx} {S : Nat → AV} {O : Nat → OB} {V : Nat → Prop} {a : Act} {w w' : World} {ρ ρ' : Nat → Value} {Z Z' : Nat → Prop} {d t : Nat} {ob ob' : OB} {rs : List AR} {us : List Value}
    (h : Good cx S O V a w ρ Z) (hO : O t = ob) (hv : ob.live = true) (hv' : ob'.live = true) (hl : Leave w (fun _ => ρ t) Z [ob] w' ρ' Z' rs [ob'] us) (htg : ob'.tags = []) (hsub : ob'.sub (fun _ => t) = ob') (ht : noTags rs = true) (hd : d < cx.N) :
    Good cx (lkf S [(d, mkRes rs)]) (lkf O [(t, ob')]) V (a.put (some d) (mkRet us)) w' ρ Z' := by
  have hwr : ∀ g, Wr [ob] (fun _ => ρ t) g → blk (ρ t) = some g := fun g ⟨i, _, h1⟩ => h1
  have hold : ∀ g, g < w.heap.size → blk (ρ t) ≠ some g → w'.heap[g]? = w.heap[g]? := fun g hg hn => hl.old g hg (fun h1 => hn (hwr g h1))
  have hlt : (O t).live = true := by rw [hO]; exact hv
  have hzt : ∀ g, Z g → blk (ρ t) ≠ some g := fun g hz e => (h.out t g hlt e).1 hz
  have hsame : Same Z w w' := fun g hz => hold g (h.zlt g hz) (hzt g hz)
  have hr0 : ρ' 0 = ρ t := hl.same 0 (by simp)
  have hnz : ∀ g, blk (ρ t) = some g → ¬ Z' g := fun g e => (hl.out 0 g hv' (by rw [hr0]; exact e)).1
  have hznew : ∀ g, Z' g → Z g ∨ w.heap.size ≤ g := fun g hz => by
    rcases hl.znew g hz with h1 | h1 | h1
    · exact .inl h1
    · exact .inr h1
    · exact absurd hz (hnz g (hwr g h1))
  have hlive : ∀ s, (lkf O [(t, ob')] s).live = true → (O s).live = true := fun s hs => by
    rw [lkf_one] at hs
    split at hs
    · rename_i e; subst e; exact hlt
    · exact hs
  have hob : DO ρ Z' w' t ob' := by
    have h1 : DO ρ' Z' w' 0 ob' := hl.objs 0
    have h2 := DO.unsub (ρ' := ρ) (f := fun _ => t) hr0.symm (fun s hs => by rw [htg] at hs; cases hs) h1
    rw [hsub] at h2
    exact h2
  have hG : Good cx S (lkf O [(t, ob')]) V a w' ρ Z' := by
    refine ⟨h.size, h.defers, fun s => DA.mono hl.zmono hsame (fun _ _ => rfl) (h.slot s), fun s => ?_, fun s s' g h1 h2 => h.sep s s' g (hlive s h1) (hlive s' h2), fun s g h1 h2 => ⟨fun hz => ?_, (h.out s g (hlive s h1) h2).2⟩, hl.zlt, fun s hs => ?_,
      hl.os.trans h.os, hl.tape.trans h.tape, hl.output.trans h.output, Nat.le_trans h.big hl.size, fun g hg hm => (hold g (by have := h.big; omega) (fun e => by rcases (h.out t g hlt e).2 with h1 | h1; omega; exact hm h1)).trans (h.old g hg hm), h.pin, h.vlo, ⟨fun g hz => hl.zmono g (h.zin.1 g hz), h.zin.2⟩, fun g hz => ?_⟩
    · rw [lkf_one]
      split
      · rename_i e; subst e; exact hob
      · rename_i e
        exact DO.mono hl.zmono hsame rfl (fun _ _ => rfl) (fun hv g hg => hold g (h.lt hv hg) (fun e' => e (h.sep s t g hv hlt hg e'))) (h.obj s)
    · rcases hznew g hz with h3 | h3
      · exact (h.out s g (hlive s h1) h2).1 h3
      · have := h.lt (hlive s h1) h2; omega
    · obtain ⟨a1, a2, a3⟩ := h.virgin s hs
      have hne : s ≠ t := fun e => by subst e; rw [hO] at a1; subst a1; cases hv
      refine ⟨?_, a2, fun s' => ?_⟩
      · rw [lkf_one, if_neg hne]; exact a1
      · rw [lkf_one]
        split
        · rw [htg]; simp
        · exact a3 s'
    · rcases hznew g hz with h3 | h3
      · exact h.zout g h3
      · exact .inr (.inl (by have := h.big; omega))
  rw [noTags, List.all_eq_true] at ht
  have hr : ∀ r ∈ rs, r.tags = [] := fun r hr => List.isEmpty_iff.1 (ht r hr)
  have hres : DRL ρ Z' w' rs us := DRL.mono (fun _ h => h) (Same.refl _ _) (fun x hx t hxt => by rw [hr x hx] at hxt; cases hxt) hl.res
  have hda : DA ρ Z' w' (mkRes rs) (mkRet us) := by
    match rs, us, hres with
    | [], [], _ => exact ⟨[], rfl, trivial⟩
    | [r], [u], h => exact h.1
    | r :: r2 :: rs, u :: u2 :: us, h => exact ⟨_, rfl, h⟩
  refine hG.put hd hda fun s hs _ => ?_
  have : ∀ r ∈ rs, s ∉ r.tags := fun r hr' h => by rw [hr r hr'] at h; cases h
  match rs, hs with
  | [], hs => simp [mkRes, AV.tags] at hs
  | [r], hs => exact this r (.head _) hs
  | r :: r2 :: rs, hs =>
    simp only [mkRes, AV.tags, List.mem_flatMap] at hs
    obtain ⟨r', h6, h7⟩ := hs
    exact this r' h6 h7
/-- Arguments: the object t itself, values, slices written no more. -/
inductive ArgsT (t : Nat) (S : Nat → AV) (O : Nat → OB) : List Operand → List AR → Prop where
  | nil : ArgsT t S O [] []
  | one {x : Operand} {r : AR} {xs : List Operand} {rs : List AR} : Ag S x (.r r) → r.tags = [] → ArgsT t S O xs rs → ArgsT t S O (x :: xs) (r :: rs)
  | froz {x : Operand} {u wd : Nat} {rows : List (List CV)} {xs : List Operand} {rs : List AR} : Ag S x (.own u) → O u = .froz wd rows → ArgsT t S O xs rs → ArgsT t S O (x :: xs) (.one (.c (.sl wd rows)) :: rs)
  | rnil {x : Operand} {wd : Nat} {xs : List Operand} {rs : List AR} : Ag S x (.raw (.slice none 0 0)) → ArgsT t S O xs rs → ArgsT t S O (x :: xs) (.one (.c (.sl wd [])) :: rs)
  | tag {x : Operand} {xs : List Operand} {rs : List AR} : Ag S x (.ref t 0) → ArgsT t S O xs rs → ArgsT t S O (x :: xs) (.one (.ref 0 0) :: rs)
theorem ArgsT.ok {t : Nat} {S : Nat → AV} {O : Nat → OB} {xs : List Operand} {rs : List AR} (h : ArgsT t S O xs rs) : AgL S (argR S xs) ∧ OgL O (argO S O xs) ∧
    ∀ (S' : Nat → AV) (O' : Nat → OB), AgL S' (argR S xs) → OgL O' (argO S O xs) → Args S' O' (fun _ => t) false xs rs := by
  induction h with
  | nil => exact ⟨trivial, trivial, fun _ _ _ _ => .nil⟩
  | one h1 h2 _ ih =>
    have e : vl S _ = _ := h1
    simp only [argR, argO, List.map_cons, List.flatMap_cons, e, argO1_c h2, List.nil_append]
    exact ⟨⟨h1, ih.1⟩, ih.2.1, fun S' O' hR hO => .one hR.1 h2 (ih.2.2 S' O' hR.2 hO)⟩
  | froz h1 h2 _ ih =>
    have e : vl S _ = _ := h1
    simp only [argR, argO, List.map_cons, List.flatMap_cons, e, argO1, h2, List.cons_append, List.nil_append]
    exact ⟨⟨h1, ih.1⟩, ⟨h2, ih.2.1⟩, fun S' O' hR hO => .froz hR.1 hO.1 (ih.2.2 S' O' hR.2 hO.2)⟩
  | rnil h1 _ ih =>
    have e : vl S _ = _ := h1
    simp only [argR, argO, List.map_cons, List.flatMap_cons, e, argO1, List.nil_append]
    exact ⟨⟨h1, ih.1⟩, ih.2.1, fun S' O' hR hO => .rnil hR.1 (ih.2.2 S' O' hR.2 hO)⟩
  | tag h1 _ ih =>
    have e : vl S _ = _ := h1
    simp only [argR, argO, List.map_cons, List.flatMap_cons, e, argO1, List.nil_append]
    exact ⟨⟨h1, ih.1⟩, ih.2.1, fun S' O' hR hO => .tag hR.1 (ih.2.2 S' O' hR.2 hO)⟩
theorem opx_callO {P : Program} {R : List (Operand × AV)} {RO : OL} {f : FuncId} {xs : List Operand} {ats : Array TypeId} {args rs0 : List AR} {d t : Nat} {ty : TypeId} {pos : String} {af : Array Edge} {ob ob' : OB}
    (hc : Con P f args [ob] (fun rs all => rs = rs0 ∧ all = [ob'])) (hv : ob.live = true) (hv' : ob'.live = true) (hsub0 : ob.sub (fun _ => t) = ob) (htg : ob'.tags = []) (hsub : ob'.sub (fun _ => t) = ob') (ht : noTags rs0 = true)
    (ha : ∀ (S : Nat → AV) (O : Nat → OB), AgL S R → OgL O RO → Args S O (fun _ => t) false xs args) :
    OpX P ⟨some d, .call { callee := .value (.func f), args := xs.toArray, argTypes := ats }, ty, pos, af, none⟩ R ((t, ob) :: RO) [] [(d, mkRes rs0)] [(t, ob')] := by
  rintro cx S O V a w hR hO _ hU ⟨ρ, Z, hg⟩ K Q hK
  have hOt : O t = ob := hO.1
  have hent : Entry w (fun _ => ρ t) Z args [ob] (xs.map a.eval) := by
    refine ⟨(ha S O hR hO.2).drl hg (fun _ h => h) (fun h => by cases h), fun i => ?_, fun i j g h1 h2 _ _ => ?_, fun i g h1 h2 => ?_, hg.zlt, hg.gl⟩
    · match i with
      | 0 =>
        have h1 := hg.obj t
        rw [hOt, ← hsub0] at h1
        exact DO.sub (f := fun _ => t) (t := 0) h1
      | i + 1 => simp [obAt]; trivial
    · match i, j with
      | 0, 0 => rfl
      | i + 1, _ => simp [obAt, OB.live] at h1
      | 0, j + 1 => simp [obAt, OB.live] at h2
    · exact (hg.out t g (by rw [hOt]; exact hv) h2).1
  have hcall := hc.run w _ _ _ hent
  unfold Oper.wp
  have hexec : (execOp a.eval ⟨some d, .call { callee := .value (.func f), args := xs.toArray, argTypes := ats }, ty, pos, af, none⟩).run P w = .ok (.enter f (xs.map a.eval).toArray) w := by
    rw [execOp_call_go, run_callFunc hc.ok]
    simp
  rw [hexec, Oper.upon_enter]
  refine hcall.mono fun e w' ⟨rs, all, us, ρ', Z', hpost, hlen, he, hl⟩ => ?_
  subst he
  obtain ⟨rfl, rfl⟩ := hpost
  exact hK _ _ ⟨ρ, Z', (hg.callO hOt hv hv' hl htg hsub ht (blt_lt hU.1)).weak fun t h => h.1⟩
section
variable {P : Program} {ol : List Oper} {cx : Cx} {Q : APost} {done : List Keys} {rest : List Oper} {l : SL} {m : OL} {n : Nat}
variable {d : Nat} {ty : TypeId} {pos : String} {af : Array Edge} {f : FuncId} {xs : List Operand} {ats : Array TypeId} {args rs0 : List AR}
theorem ad_rd {bs bs' : List UInt8} {p q : Int} (t : Nat) (hm : lk .gone m t = rdO bs p) (ha : ArgsT t (lk .dead l) (lk .gone m) xs args) (hd : Nat.blt d cx.N = true) (hc : Con P f args [rdO bs p] (fun rs all => rs = rs0 ∧ all = [rdO bs' q])) (ht : noTags rs0 = true)
    (k : AD P ol cx Q (⟨rtmps (argR (lk .dead l) xs), [d], t :: (argO (lk .dead l) (lk .gone m) xs).map (·.1), [t], []⟩ :: done) rest ((d, mkRes rs0) :: l) ((t, rdO bs' q) :: m) n) :
    AD P ol cx Q done (⟨some d, .call { callee := .value (.func f), args := xs.toArray, argTypes := ats }, ty, pos, af, none⟩ :: rest) l m n := by
  obtain ⟨h1, h2, h3⟩ := ha.ok
  exact ad_ent (n' := n) (entOK_of (opx_callO hc rfl rfl rfl rfl rfl ht h3)) h1 ⟨hm, h2⟩ (by simp) (Nat.le_refl _) ⟨hd, trivial⟩ k
end
section
variable {P : Program} {ops : Array Oper} {cx : Cx} {Q : APost} {rest : List Oper} {l : SL} {m : OL} {n : Nat}
variable {d : Nat} {ty : TypeId} {pos : String} {af : Array Edge} {f : FuncId} {xs : List Operand} {ats : Array TypeId} {args : List AR}
/-- a struct of a slice, a plain cell and a slice, own slices read -/
theorem al_call3_ro {wd wd2 : Nat} {e e2 : TypeId} {rows rows2 : List (List CV)} {v : Value} (ha : Args (lk .dead l) (lk .gone m) (cpi [] n) true xs args) (hd : Nat.blt d cx.N = true)
    (hc : Con P f args [] (fun rs all => rs = [.agg [.own 0, .c (.raw v), .own 1]] ∧ all = [.row wd e rows, .row wd2 e2 rows2])) (hfl : flatRows rows) (hfl2 : flatRows rows2)
    (k : AL P ops cx Q rest ((d, .agg [.own n, .c (.raw v), .own (n + 1)]) :: l) ((n, .row wd e rows) :: (n + 1, .row wd2 e2 rows2) :: m) (n + 2)) :
    AL P ops cx Q (⟨some d, .call { callee := .value (.func f), args := xs.toArray, argTypes := ats }, ty, pos, af, none⟩ :: rest) l m n :=
  al_call_ro hc (fun rs all ⟨h1, h2⟩ => by subst h1 h2; exact ⟨rfl, fun o ho => by simp at ho; rcases ho with rfl | rfl; exact hfl; exact hfl2⟩) ha hd fun rs all ⟨h1, h2⟩ => by
    subst h1 h2
    exact k
end
/-! ### literals that are written no more -/
theorem OpX.frz {P : Program} {o : Oper} {R : List (Operand × AV)} {RO : List (Nat × OB)} {NT : List Nat} {d n wd : Nat} {e : TypeId} {rows : List (List CV)} (h : OpX P o R RO NT [(d, .own n)] [(n, .row wd e rows)]) :
    OpX P o R RO NT [(d, .sl wd rows)] [(n, .froz wd rows)] := by
  intro cx S O V a w hR hO hV hU hI K Q hK
  refine h cx S O V a w hR hO hV hU hI K Q fun a' w' ⟨ρ, Z, hg⟩ => hK a' w' ?_
  have h1 := hg.freeze (t := n) (wd := wd) (e := e) (rows := rows) (by rw [lkf_one, if_pos rfl])
  have e1 : lkf (lkf O [(n, OB.row wd e rows)]) [(n, OB.froz wd rows)] = lkf O [(n, OB.froz wd rows)] := by
    funext s; simp only [lkf_one]; split <;> rfl
  rw [e1] at h1
  have hd : DA ρ (fun g => Z g ∨ blk (ρ n) = some g) w' (.sl wd rows) (a'.tmps.getD d undef) := by
    have h2 := h1.slot d
    rw [lkf_one, if_pos rfl] at h2
    have h3 := h1.obj n
    rw [lkf_one, if_pos rfl] at h3
    have h4 : a'.tmps.getD d undef = ρ n := h2.1
    rw [h4]
    exact h3
  have h2 := h1.see d hd rfl
  have e2 : lkf (lkf S [(d, AV.own n)]) [(d, AV.sl wd rows)] = lkf S [(d, AV.sl wd rows)] := by
    funext s; simp only [lkf_one]; split <;> rfl
  rw [e2] at h2
  exact ⟨ρ, _, h2⟩
section
variable {P : Program} {ol : List Oper} {cx : Cx} {Q : APost} {done : List Keys} {rest : List Oper} {l : SL} {m : OL} {n d : Nat} {ty : TypeId} {pos : String} {af : Array Edge}
theorem ad_litI {T e bytes cnt : Nat} {zs : List Value} [hT : SlT P T e 1 bytes zs] (ns : List Int) {ps : List (Nat × Operand)} (h : P1 (lk .dead l) 0 ps (ns.map cI)) (hn : ns.length = cnt) (hb : Nat.ble cnt 16777216 = true) (hd : Nat.blt d cx.N = true)
    (k : AD P ol cx Q (⟨rtmps (rdParts ps ((ns.map cI).map fun c => .one (.c c))), [d], [], [n], [n]⟩ :: done) rest ((d, .sl 1 (inRs ns)) :: l) ((n, .froz 1 (inRs ns)) :: m) (n + 1)) :
    AD P ol cx Q done (⟨some d, .buildSlice T cnt ps.toArray, ty, pos, af, none⟩ :: rest) l m n := by
  have e1 : (ns.map cI).map (fun c => [c]) = inRs ns := by simp [inRs]
  have hx := opx_lit1 (hT := hT) (d := d) (ty := ty) (pos := pos) (af := af) (gd := none) (u := n) h (by simpa using hn) hb
  rw [e1] at hx
  exact ad_n hx.frz h.ag trivial hd k
end
end Go.Proofs.YtllgddednlfhfaaDoor
