/- Texts: Eng29 Eng18 Eng20 Eng21 Eng22 Eng24 W60 -/
import Derived.Test.YtfoecgfboicphaaGreatDoorCL8
import Derived.Lib.Bytealg
import Derived.Laws.Externs
import Derived.Test.YtfoecgfboicphaaGreatDoorCL7
/-
  The place of a byte in a string; contracts of the shelf as ours.
-/
namespace Go.Proofs.YtfoecgfboicphaaGreatDoor
open Go.RowKit
set_option linter.unusedVariables false
set_option linter.unusedSimpArgs false
section
variable {P : Program} {d : Nat} {x y : Operand} {ty : TypeId} {pos : String} {af : Array Edge}
theorem opx_idxByte {f : FuncId} {fn : Func} {ats : Array TypeId} (hf : P.funcs[f]? = some fn) (h1 : (fn.name == "runtime.NumGoroutine") = false) (h2 : fn.body.isNone = true) (h3 : Extern.findNext fn = none)
    (h4 : Extern.find fn = some Extern.BytealgIndexByte.indexByte) {s : List UInt8} {b : UInt8} {r : Int} (hr : Lib.indexByte s b = r) :
    OpX P ⟨some d, .call { callee := .value (.func f), args := #[x, y], argTypes := ats }, ty, pos, af, none⟩ [(x, .str s), (y, .raw (.int .u8 b.toNat))] [] [] [(d, .i r)] [] :=
  opx_val rfl fun cx S O V a w ρ Z hg hR hO => by
    have h5 := da_raw (hg.ag hR.1)
    have h6 := da_raw (hg.ag hR.2.1)
    refine ⟨.int .i64 r, ?_, da_mk rfl, by simp [AV.tags, AR.tags, A1.tag]⟩
    have e : (#[] ++ (#[x, y] : Array Operand).map a.eval ++ #[] : Array Value) = #[.string ⟨s.toArray⟩, .int .u8 b.toNat] := by simp [h5, h6]
    have e2 : ((b.toNat : Int).toNat).toUInt8 = b := by simp
    rw [execOp_call_go, run_callFunc_extern hf h1 h2 h3 h4, e, Lib.run_indexByteString, e2]
    subst hr
    rfl
end
theorem idx_f {c : UInt8} : ∀ {s : List UInt8}, c ∉ s → Lib.indexByte s c = -1
  | [], _ => rfl
  | a :: s, h => by
    have h1 : (a == c) = false := by simp only [beq_eq_false_iff_ne]; rintro rfl; exact h (.head _)
    have h2 := idx_f (c := c) (s := s) (fun hm => h (.tail _ hm))
    simp [Lib.indexByte, h1, h2]
theorem idx_t {c : UInt8} : ∀ {x r : List UInt8}, c ∉ x → Lib.indexByte (x ++ c :: r) c = (x.length : Int)
  | [], r, _ => by simp [Lib.indexByte]
  | a :: x, r, h => by
    have h1 : (a == c) = false := by simp only [beq_eq_false_iff_ne]; rintro rfl; exact h (.head _)
    have h2 := idx_t (c := c) (x := x) (r := r) (fun hm => h (.tail _ hm))
    have h3 : ((x.length : Int) == -1) = false := by simp only [beq_eq_false_iff_ne]; omega
    simp [Lib.indexByte, h1, h2, h3]
end Go.Proofs.YtfoecgfboicphaaGreatDoor
/-
  Calls in drawn regions that hand out a slice of their own; appends in drawn regions.
-/
namespace Go.Proofs.YtfoecgfboicphaaGreatDoor
open Go.RowKit
set_option linter.unusedVariables false
set_option linter.unusedSimpArgs false

end Go.Proofs.YtfoecgfboicphaaGreatDoor
/-
  Fields of struct values; boxes whose fields hold slices; calls that hand out several objects; appends in drawn regions.
-/
namespace Go.Proofs.YtfoecgfboicphaaGreatDoor
open Go.RowKit
set_option linter.unusedVariables false
set_option linter.unusedSimpArgs false


def BoxC (O : Nat → OB) (x y : A1) : Prop := x = y ∨ (∃ t wd rows, x = .own t ∧ O t = .froz wd rows ∧ y = .c (.sl wd rows)) ∨ ∃ wd, x = .c (.raw (.slice none 0 0)) ∧ y = .c (.sl wd [])
def BoxCL (O : Nat → OB) : List A1 → List A1 → Prop
  | [], [] => True
  | x :: xs, y :: ys => BoxC O x y ∧ BoxCL O xs ys
  | _, _ => False
theorem BoxC.same {O : Nat → OB} {x : A1} : BoxC O x x := .inl rfl
theorem BoxC.froz {O : Nat → OB} {t wd : Nat} {rows : List (List CV)} (h : O t = .froz wd rows) : BoxC O (.own t) (.c (.sl wd rows)) := .inr (.inl ⟨t, wd, rows, rfl, h, rfl⟩)
theorem BoxC.nil {O : Nat → OB} {wd : Nat} : BoxC O (.c (.raw (.slice none 0 0))) (.c (.sl wd [])) := .inr (.inr ⟨wd, rfl, rfl⟩)
theorem BoxCL.nil {O : Nat → OB} : BoxCL O [] [] := trivial
theorem BoxCL.cons {O : Nat → OB} {x y : A1} {xs ys : List A1} (h : BoxC O x y) (k : BoxCL O xs ys) : BoxCL O (x :: xs) (y :: ys) := ⟨h, k⟩
theorem BoxCL.d1l {ρ : Nat → Value} {Z : Nat → Prop} {w : World} {O : Nat → OB} (hg : ∀ t, DO ρ Z w t (O t)) : ∀ {xs ys : List A1} {us : List Value}, BoxCL O xs ys → D1L ρ Z w xs us → D1L ρ Z w ys us
  | [], [], _, _, h => h
  | x :: xs, y :: ys, u :: us, h, hd => by
    refine ⟨?_, BoxCL.d1l hg h.2 hd.2⟩
    rcases h.1 with e | ⟨t, wd, rows, e1, e2, e3⟩ | ⟨wd, e1, e2⟩
    · subst e; exact hd.1
    · subst e1 e3
      have h1 := hg t
      rw [e2] at h1
      have h2 : u = ρ t := hd.1.1
      rw [h2]; exact h1
    · subst e1 e2
      have h1 : DC Z w (.raw (.slice none 0 0)) u := hd.1
      cases h1
      exact DC.nil wd none 0 (by simp)
  | _ :: _, _ :: _, [], _, hd => hd.elim
  | [], _ :: _, _, h, _ => h.elim
  | _ :: _, [], _, h, _ => h.elim
theorem BoxCL.tags {O : Nat → OB} {s : Nat} : ∀ {xs ys : List A1}, BoxCL O xs ys → s ∈ ys.flatMap (fun x => x.tag.toList) → s ∈ xs.flatMap (fun x => x.tag.toList)
  | [], [], _, h => h
  | x :: xs, y :: ys, h, hs => by
    rw [List.flatMap_cons, List.mem_append] at hs ⊢
    rcases hs with hs | hs
    · rcases h.1 with e | ⟨t, wd, rows, e1, e2, e3⟩ | ⟨wd, e1, e2⟩
      · subst e; exact .inl hs
      · subst e3; simp [A1.tag] at hs
      · subst e2; simp [A1.tag] at hs
    · exact .inr (BoxCL.tags h.2 hs)
  | [], _ :: _, h, _ => h.elim
  | _ :: _, [], h, _ => h.elim
section
variable {cx : Cx} {l : SL} {m : OL} {n : Nat}
theorem le_boxC (u : Nat) {e : TypeId} {cells cells' : List A1} (h : lk .gone m u = .box e cells) (hc : BoxCL (lk .gone m) cells cells') : Le cx l m n l ((u, .box e cells') :: m) n := by
  rintro a w ⟨ρ, Z, hg⟩
  refine ⟨ρ, Z, ?_⟩
  have ho := hg.obj u
  rw [h] at ho
  obtain ⟨g, us, h1, h2, h3⟩ := ho
  have k := hg.set (t := u) (w' := w) (by rw [h]; rfl) (World.grownBy.refl _ _) (ob := .box e cells') ⟨g, us, h1, h2, hc.d1l hg.obj h3⟩ fun s hs hv => by
    refine (hg.virgin s hv).2.2 u ?_
    rw [h]
    exact hc.tags hs
  rw [show lk OB.gone ((u, .box e cells') :: m) = lkf (lk .gone m) [(u, .box e cells')] from lk_cons _ _ _ _]
  exact k
end



section
variable {cx : Cx} {l l2 l3 : SL} {m m2 m3 : OL} {n n2 n3 : Nat}
theorem le_tr (h1 : Le cx l m n l2 m2 n2) (h2 : Le cx l2 m2 n2 l3 m3 n3) : Le cx l m n l3 m3 n3 := fun a w h => h2 a w (h1 a w h)
end
end Go.Proofs.YtfoecgfboicphaaGreatDoor
/-
  Calls in drawn regions that write one object of the caller's (a reader), with answers known.
-/
namespace Go.Proofs.YtfoecgfboicphaaGreatDoor
open Go.RowKit
set_option linter.unusedVariables false
set_option linter.unusedSimpArgs false

theorem Good.callO {cx : Cx} {S : Nat → AV} {O : Nat → OB} {V : Nat → Prop} {a : Act} {w w' : World} {ρ ρ' : Nat → Value} {Z Z' : Nat → Prop} {d t : Nat} {ob ob' : OB} {rs : List AR} {us : List Value}
    (h : Good cx S O V a w ρ Z) (hO : O t = ob) (hv : ob.live = true) (hv' : ob'.live = true) (hl : Leave w (fun _ => ρ t) Z [ob] w' ρ' Z' rs [ob'] us) (htg : ob'.tags = []) (hsub : ob'.sub (fun _ => t) = ob') (ht : noTags rs = true) (hd : d < cx.N) :
    Good cx (lkf S [(d, mkRes rs)]) (lkf O [(t, ob')]) V (a.put (some d) (mkRet us)) w' ρ Z' := by
  have hwr : ∀ g, Wr [ob] (fun _ => ρ t) g → blk (ρ t) = some g := fun g ⟨i, _, h1⟩ => h1
  have hold : ∀ g, g < w.heap.size → blk (ρ t) ≠ some g → w'.heap[g]? = w.heap[g]? := fun g hg hn => hl.old g hg (fun h1 => hn (hwr g h1))
  have hlt : (O t).live = true := by rw [hO]; exact hv
  have hzt : ∀ g, Z g → blk (ρ t) ≠ some g := fun g hz e => (h.out t g hlt e).1 hz
  have hsame : Same Z w w' := fun g hz => hold g (h.zlt g hz) (hzt g hz)
  have hr0 : ρ' 0 = ρ t := hl.same 0 (by simp)
  have hnz : ∀ g, blk (ρ t) = some g → ¬ Z' g := fun g e => (hl.out 0 g hv' (by rw [hr0]; exact e)).1
  have hznew : ∀ g, Z' g → Z g ∨ w.heap.size ≤ g := fun g hz => by
    rcases hl.znew g hz with h1 | h1 | h1
    · exact .inl h1
    · exact .inr h1
    · exact absurd hz (hnz g (hwr g h1))
  have hlive : ∀ s, (lkf O [(t, ob')] s).live = true → (O s).live = true := fun s hs => by
    rw [lkf_one] at hs
    split at hs
    · rename_i e; subst e; exact hlt
    · exact hs
  have hob : DO ρ Z' w' t ob' := by
    have h1 : DO ρ' Z' w' 0 ob' := hl.objs 0
    have h2 := DO.unsub (ρ' := ρ) (f := fun _ => t) hr0.symm (fun s hs => by rw [htg] at hs; cases hs) h1
    rw [hsub] at h2
    exact h2
  have hG : Good cx S (lkf O [(t, ob')]) V a w' ρ Z' := by
    refine ⟨h.size, h.defers, fun s => DA.mono hl.zmono hsame (fun _ _ => rfl) (h.slot s), fun s => ?_, fun s s' g h1 h2 => h.sep s s' g (hlive s h1) (hlive s' h2), fun s g h1 h2 => ⟨fun hz => ?_, (h.out s g (hlive s h1) h2).2⟩, hl.zlt, fun s hs => ?_,
      hl.os.trans h.os, hl.tape.trans h.tape, hl.output.trans h.output, Nat.le_trans h.big hl.size, fun g hg hm => (hold g (by have := h.big; omega) (fun e => by rcases (h.out t g hlt e).2 with h1 | h1; omega; exact hm h1)).trans (h.old g hg hm), h.pin, h.vlo, ⟨fun g hz => hl.zmono g (h.zin.1 g hz), h.zin.2⟩, fun g hz => ?_⟩
    · rw [lkf_one]
      split
      · rename_i e; subst e; exact hob
      · rename_i e
        exact DO.mono hl.zmono hsame rfl (fun _ _ => rfl) (fun hv g hg => hold g (h.lt hv hg) (fun e' => e (h.sep s t g hv hlt hg e'))) (h.obj s)
    · rcases hznew g hz with h3 | h3
      · exact (h.out s g (hlive s h1) h2).1 h3
      · have := h.lt (hlive s h1) h2; omega
    · obtain ⟨a1, a2, a3⟩ := h.virgin s hs
      have hne : s ≠ t := fun e => by subst e; rw [hO] at a1; subst a1; cases hv
      refine ⟨?_, a2, fun s' => ?_⟩
      · rw [lkf_one, if_neg hne]; exact a1
      · rw [lkf_one]
        split
        · rw [htg]; simp
        · exact a3 s'
    · rcases hznew g hz with h3 | h3
      · exact h.zout g h3
      · exact .inr (.inl (by have := h.big; omega))
  rw [noTags, List.all_eq_true] at ht
  have hr : ∀ r ∈ rs, r.tags = [] := fun r hr => List.isEmpty_iff.1 (ht r hr)
  have hres : DRL ρ Z' w' rs us := DRL.mono (fun _ h => h) (Same.refl _ _) (fun x hx t hxt => by rw [hr x hx] at hxt; cases hxt) hl.res
  have hda : DA ρ Z' w' (mkRes rs) (mkRet us) := by
    match rs, us, hres with
    | [], [], _ => exact ⟨[], rfl, trivial⟩
    | [r], [u], h => exact h.1
    | r :: r2 :: rs, u :: u2 :: us, h => exact ⟨_, rfl, h⟩
  refine hG.put hd hda fun s hs _ => ?_
  have : ∀ r ∈ rs, s ∉ r.tags := fun r hr' h => by rw [hr r hr'] at h; cases h
  match rs, hs with
  | [], hs => simp [mkRes, AV.tags] at hs
  | [r], hs => exact this r (.head _) hs
  | r :: r2 :: rs, hs =>
    simp only [mkRes, AV.tags, List.mem_flatMap] at hs
    obtain ⟨r', h6, h7⟩ := hs
    exact this r' h6 h7
/-- Arguments: the object t itself, values, slices written no more. -/
inductive ArgsT (t : Nat) (S : Nat → AV) (O : Nat → OB) : List Operand → List AR → Prop where
  | nil : ArgsT t S O [] []
  | one {x : Operand} {r : AR} {xs : List Operand} {rs : List AR} : Ag S x (.r r) → r.tags = [] → ArgsT t S O xs rs → ArgsT t S O (x :: xs) (r :: rs)
  | froz {x : Operand} {u wd : Nat} {rows : List (List CV)} {xs : List Operand} {rs : List AR} : Ag S x (.own u) → O u = .froz wd rows → ArgsT t S O xs rs → ArgsT t S O (x :: xs) (.one (.c (.sl wd rows)) :: rs)
  | rnil {x : Operand} {wd : Nat} {xs : List Operand} {rs : List AR} : Ag S x (.raw (.slice none 0 0)) → ArgsT t S O xs rs → ArgsT t S O (x :: xs) (.one (.c (.sl wd [])) :: rs)
  | tag {x : Operand} {xs : List Operand} {rs : List AR} : Ag S x (.ref t 0) → ArgsT t S O xs rs → ArgsT t S O (x :: xs) (.one (.ref 0 0) :: rs)
theorem ArgsT.ok {t : Nat} {S : Nat → AV} {O : Nat → OB} {xs : List Operand} {rs : List AR} (h : ArgsT t S O xs rs) : AgL S (argR S xs) ∧ OgL O (argO S O xs) ∧
    ∀ (S' : Nat → AV) (O' : Nat → OB), AgL S' (argR S xs) → OgL O' (argO S O xs) → Args S' O' (fun _ => t) false xs rs := by
  induction h with
  | nil => exact ⟨trivial, trivial, fun _ _ _ _ => .nil⟩
  | one h1 h2 _ ih =>
    have e : vl S _ = _ := h1
    simp only [argR, argO, List.map_cons, List.flatMap_cons, e, argO1_c h2, List.nil_append]
    exact ⟨⟨h1, ih.1⟩, ih.2.1, fun S' O' hR hO => .one hR.1 h2 (ih.2.2 S' O' hR.2 hO)⟩
  | froz h1 h2 _ ih =>
    have e : vl S _ = _ := h1
    simp only [argR, argO, List.map_cons, List.flatMap_cons, e, argO1, h2, List.cons_append, List.nil_append]
    exact ⟨⟨h1, ih.1⟩, ⟨h2, ih.2.1⟩, fun S' O' hR hO => .froz hR.1 hO.1 (ih.2.2 S' O' hR.2 hO.2)⟩
  | rnil h1 _ ih =>
    have e : vl S _ = _ := h1
    simp only [argR, argO, List.map_cons, List.flatMap_cons, e, argO1, List.nil_append]
    exact ⟨⟨h1, ih.1⟩, ih.2.1, fun S' O' hR hO => .rnil hR.1 (ih.2.2 S' O' hR.2 hO)⟩
  | tag h1 _ ih =>
    have e : vl S _ = _ := h1
    simp only [argR, argO, List.map_cons, List.flatMap_cons, e, argO1, List.nil_append]
    exact ⟨⟨h1, ih.1⟩, ih.2.1, fun S' O' hR hO => .tag hR.1 (ih.2.2 S' O' hR.2 hO)⟩
theorem opx_callO {P : Program} {R : List (Operand × AV)} {RO : OL} {f : FuncId} {xs : List Operand} {ats : Array TypeId} {args rs0 : List AR} {d t : Nat} {ty : TypeId} {pos : String} {af : Array Edge} {ob ob' : OB}
    (hc : Con P f args [ob] (fun rs all => rs = rs0 ∧ all = [ob'])) (hv : ob.live = true) (hv' : ob'.live = true) (hsub0 : ob.sub (fun _ => t) = ob) (htg : ob'.tags = []) (hsub : ob'.sub (fun _ => t) = ob') (ht : noTags rs0 = true)
    (ha : ∀ (S : Nat → AV) (O : Nat → OB), AgL S R → OgL O RO → Args S O (fun _ => t) false xs args) :
    OpX P ⟨some d, .call { callee := .value (.func f), args := xs.toArray, argTypes := ats }, ty, pos, af, none⟩ R ((t, ob) :: RO) [] [(d, mkRes rs0)] [(t, ob')] := by
  rintro cx S O V a w hR hO _ hU ⟨ρ, Z, hg⟩ K Q hK
  have hOt : O t = ob := hO.1
  have hent : Entry w (fun _ => ρ t) Z args [ob] (xs.map a.eval) := by
    refine ⟨(ha S O hR hO.2).drl hg (fun _ h => h) (fun h => by cases h), fun i => ?_, fun i j g h1 h2 _ _ => ?_, fun i g h1 h2 => ?_, hg.zlt, hg.gl⟩
    · match i with
      | 0 =>
        have h1 := hg.obj t
        rw [hOt, ← hsub0] at h1
        exact DO.sub (f := fun _ => t) (t := 0) h1
      | i + 1 => simp [obAt]; trivial
    · match i, j with
      | 0, 0 => rfl
      | i + 1, _ => simp [obAt, OB.live] at h1
      | 0, j + 1 => simp [obAt, OB.live] at h2
    · exact (hg.out t g (by rw [hOt]; exact hv) h2).1
  have hcall := hc.run w _ _ _ hent
  unfold Oper.wp
  have hexec : (execOp a.eval ⟨some d, .call { callee := .value (.func f), args := xs.toArray, argTypes := ats }, ty, pos, af, none⟩).run P w = .ok (.enter f (xs.map a.eval).toArray) w := by
    rw [execOp_call_go, run_callFunc hc.ok]
    simp
  rw [hexec, Oper.upon_enter]
  refine hcall.mono fun e w' ⟨rs, all, us, ρ', Z', hpost, hlen, he, hl⟩ => ?_
  subst he
  obtain ⟨rfl, rfl⟩ := hpost
  exact hK _ _ ⟨ρ, Z', (hg.callO hOt hv hv' hl htg hsub ht (blt_lt hU.1)).weak fun t h => h.1⟩
section
variable {P : Program} {ol : List Oper} {cx : Cx} {Q : APost} {done : List Keys} {rest : List Oper} {l : SL} {m : OL} {n : Nat}
variable {d : Nat} {ty : TypeId} {pos : String} {af : Array Edge} {f : FuncId} {xs : List Operand} {ats : Array TypeId} {args rs0 : List AR}
theorem ad_rd {bs bs' : List UInt8} {p q : Int} (t : Nat) (hm : lk .gone m t = rdO bs p) (ha : ArgsT t (lk .dead l) (lk .gone m) xs args) (hd : Nat.blt d cx.N = true) (hc : Con P f args [rdO bs p] (fun rs all => rs = rs0 ∧ all = [rdO bs' q])) (ht : noTags rs0 = true)
    (k : AD P ol cx Q (⟨rtmps (argR (lk .dead l) xs), [d], t :: (argO (lk .dead l) (lk .gone m) xs).map (·.1), [t], []⟩ :: done) rest ((d, mkRes rs0) :: l) ((t, rdO bs' q) :: m) n) :
    AD P ol cx Q done (⟨some d, .call { callee := .value (.func f), args := xs.toArray, argTypes := ats }, ty, pos, af, none⟩ :: rest) l m n := by
  obtain ⟨h1, h2, h3⟩ := ha.ok
  exact ad_ent (n' := n) (entOK_of (opx_callO hc rfl rfl rfl rfl rfl ht h3)) h1 ⟨hm, h2⟩ (by simp) (Nat.le_refl _) ⟨hd, trivial⟩ k
end
theorem OpX.frz {P : Program} {o : Oper} {R : List (Operand × AV)} {RO : List (Nat × OB)} {NT : List Nat} {d n wd : Nat} {e : TypeId} {rows : List (List CV)} (h : OpX P o R RO NT [(d, .own n)] [(n, .row wd e rows)]) :
    OpX P o R RO NT [(d, .sl wd rows)] [(n, .froz wd rows)] := by
  intro cx S O V a w hR hO hV hU hI K Q hK
  refine h cx S O V a w hR hO hV hU hI K Q fun a' w' ⟨ρ, Z, hg⟩ => hK a' w' ?_
  have h1 := hg.freeze (t := n) (wd := wd) (e := e) (rows := rows) (by rw [lkf_one, if_pos rfl])
  have e1 : lkf (lkf O [(n, OB.row wd e rows)]) [(n, OB.froz wd rows)] = lkf O [(n, OB.froz wd rows)] := by
    funext s; simp only [lkf_one]; split <;> rfl
  rw [e1] at h1
  have hd : DA ρ (fun g => Z g ∨ blk (ρ n) = some g) w' (.sl wd rows) (a'.tmps.getD d undef) := by
    have h2 := h1.slot d
    rw [lkf_one, if_pos rfl] at h2
    have h3 := h1.obj n
    rw [lkf_one, if_pos rfl] at h3
    have h4 : a'.tmps.getD d undef = ρ n := h2.1
    rw [h4]
    exact h3
  have h2 := h1.see d hd rfl
  have e2 : lkf (lkf S [(d, AV.own n)]) [(d, AV.sl wd rows)] = lkf S [(d, AV.sl wd rows)] := by
    funext s; simp only [lkf_one]; split <;> rfl
  rw [e2] at h2
  exact ⟨ρ, _, h2⟩
end Go.Proofs.YtfoecgfboicphaaGreatDoor
/-
  Calls that write two slices of the caller's own.
-/
namespace Go.Proofs.YtfoecgfboicphaaGreatDoor
open Go.RowKit
set_option linter.unusedVariables false
set_option linter.unusedSimpArgs false
end Go.Proofs.YtfoecgfboicphaaGreatDoor
/-
  Structs of two numbers and two slices: calls, ends; nil fields as slices of the call's own.
-/
namespace Go.Proofs.YtfoecgfboicphaaGreatDoor
open Go.RowKit
set_option linter.unusedVariables false
section
variable {cx : Cx} {l : SL} {m : OL} {n : Nat}
/-- A field of a box that is nil holds an empty slice of the call's own. -/
theorem le_boxOwn (u wd : Nat) (el : TypeId) {e : TypeId} {xs ys : List A1} (h : lk .gone m u = .box e (xs ++ .c (.raw (.slice none 0 0)) :: ys)) :
    Le cx l m n l ((u, .box e (xs ++ .own n :: ys)) :: (n, .row wd el []) :: m) (n + 1) := by
  rintro a w ⟨ρ, Z, hg⟩
  have h1 := hg.ownNil (n := n) (wd := wd) (e := el) (Nat.le_refl n)
  have hun : u ≠ n := fun e0 => by
    have := (hg.virgin n (Nat.le_refl n)).1
    rw [← e0, h] at this; cases this
  have hO : lkf (lk .gone m) [(n, .row wd el [])] u = .box e (xs ++ .c (.raw (.slice none 0 0)) :: ys) := by rw [lkf_one, if_neg hun, h]
  have ho := h1.obj u
  rw [hO] at ho
  obtain ⟨g, us, g1, g2, g3⟩ := ho
  have key : ∀ {xs : List A1} {us : List Value}, D1L (fun s => if s = n then Value.slice none 0 0 else ρ s) Z w (xs ++ .c (.raw (.slice none 0 0)) :: ys) us → D1L (fun s => if s = n then Value.slice none 0 0 else ρ s) Z w (xs ++ .own n :: ys) us := by
    intro xs
    induction xs with
    | nil =>
      intro us hd
      match us, hd with
      | x :: us, hd =>
        refine ⟨?_, hd.2⟩
        have hx : x = .slice none 0 0 := by
          have h0 : DC Z w (.raw (.slice none 0 0)) x := hd.1
          cases h0; rfl
        subst hx
        exact ⟨by simp, rfl⟩
    | cons y ys ih =>
      intro us hd
      match us, hd with
      | x :: us, hd => exact ⟨hd.1, ih hd.2⟩
  have htag : ∀ s ∈ (OB.box e (xs ++ .own n :: ys)).tags, ¬ (n ≤ s ∧ s ≠ n) := fun s hs hv => by
    have hold := (h1.virgin s hv).2.2 u
    rw [hO] at hold
    apply hold
    simp only [OB.tags, List.flatMap_append, List.flatMap_cons, List.mem_append] at hs ⊢
    rcases hs with hs | hs | hs
    · exact .inl hs
    · simp [A1.tag] at hs; exact absurd hs hv.2
    · exact .inr (.inr hs)
  have k := h1.set (t := u) (w' := w) (by rw [hO]; rfl) (World.grownBy.refl _ _) (ob := .box e (xs ++ .own n :: ys)) ⟨g, us, g1, g2, key g3⟩ htag
  refine ⟨fun s => if s = n then .slice none 0 0 else ρ s, Z, ?_⟩
  rw [show lk OB.gone ((u, .box e (xs ++ .own n :: ys)) :: (n, .row wd el []) :: m) = lkf (lkf (lk .gone m) [(n, .row wd el [])]) [(u, .box e (xs ++ .own n :: ys))] from by rw [lk_cons, lk_cons]]
  exact k.weak fun t ht => ⟨by omega, by omega⟩
end

section
variable {P : Program} {d : Nat} {t ty : TypeId} {pos : String} {af : Array Edge} {gd : Option (Nat × Bool)}
theorem opx_build0 {pl : List (Nat × Nat)} {zs : List Value} [h : BldT P t pl zs] : OpX P ⟨some d, .build t #[], ty, pos, af, gd⟩ [] [] [] [(d, .agg (zs.map fun v => .c (.raw v)))] [] :=
  opx_build (ps := []) (rs := []) rfl rfl
end
end Go.Proofs.YtfoecgfboicphaaGreatDoor
/-
  Cutting strings: the walks.
-/
namespace Go.Proofs.YtfoecgfboicphaaGreatDoor
open Go.RowKit
set_option linter.unusedVariables false
set_option linter.unusedSimpArgs false
attribute [local irreducible] AL AW OpX Le AD

theorem c_IndexByte (s : Str) (c : UInt8) {r : Int} (hr : Lib.indexByte s c = r) : Con Tryz.prog 87 [rStr s, .one (.c (.raw (.int .u8 c.toNat)))] [] (fun rs all => rs = [rI r] ∧ all = []) := by
  refine con_of_aw (vars := [.tmp 4]) [(0, .r (rStr s)), (1, .r (.one (.c (.raw (.int .u8 c.toNat)))))] [] 0 Tryz.func87 (by kernel_rfl) rfl Tryz.ntmps87 rfl (by decide) rfl rfl rfl rfl rfl ?_; intro B M w0 ρ0 Z0
  repeat' (first | (refine is_al ?_; (first | (refine is_move ?_; refine al_v (opx_move (.raw _)) ⟨rfl, trivial⟩ trivial rfl ?_) | (refine is_assign ?_; refine al_v (opx_assign (.raw _)) ⟨rfl, trivial⟩ trivial rfl ?_) | refine al_nil ?_ | refine al_v (opx_idxByte Tryz.func118 (by kernel_rfl) (by kernel_rfl) (by kernel_rfl) (by kernel_rfl) hr) ⟨rfl, rfl, trivial⟩ trivial rfl ?_)) | (refine is_ad ?_; refine al_v (opx_idxByte Tryz.func118 (by kernel_rfl) (by kernel_rfl) (by kernel_rfl) (by kernel_rfl) hr) ⟨rfl, rfl, trivial⟩ trivial rfl ?_) | (refine is_aw ?_; (first | refine aw_seq ?_ | refine aw_region ?_ | refine aw_ret ?_)))
  exact ret_raw trivial rfl ⟨rfl, rfl⟩
theorem c_Index (s : Str) (c : UInt8) {r : Int} (hr : Lib.indexByte s c = r) : Con Tryz.prog 62 [rStr s, rStr [c]] [] (fun rs all => rs = [rI r] ∧ all = []) := by
  refine con_of_aw (vars := [.tmp 4]) [(0, .r (rStr s)), (1, .r (rStr [c]))] [] 0 Tryz.func62 (by kernel_rfl) rfl Tryz.ntmps62 rfl (by decide) rfl rfl rfl rfl rfl ?_; intro B M w0 ρ0 Z0
  have hc : [c][0]? = some c := rfl
  have l1 : ([c] : Str).length = 1 := rfl
  have d0 : decide ((([c] : Str).length : Int) = 0) = false := rfl
  have d1 : decide ((([c] : Str).length : Int) = 1) = true := rfl
  by_cases h : [c] = s
  · subst h
    have d2 : decide ([c] = [c]) = true := eqD _
    have h0 : r = 0 := by rw [← hr]; simp [Lib.indexByte]
    repeat' (first | (refine is_al ?_; (first | (refine is_gd ?_; refine al_on rfl rfl rfl (by assumption) ?_) | (refine is_move ?_; refine al_v (opx_move (.raw _)) ⟨rfl, trivial⟩ trivial rfl ?_) | (refine is_bin ?_; (first | refine al_v opx_eql ⟨rfl, rfl, trivial⟩ trivial rfl ?_ | refine al_v opx_seql ⟨rfl, rfl, trivial⟩ trivial rfl ?_)) | (refine is_assign ?_; refine al_v (opx_assign (.raw _)) ⟨rfl, trivial⟩ trivial rfl ?_) | (refine is_pick ?_; refine al_v (opx_pick_f (.raw _) rfl) ⟨rfl, rfl, trivial⟩ trivial rfl ?_) | (refine is_bi ?_; refine al_v opx_len_str ⟨rfl, trivial⟩ trivial rfl ?_) | refine al_nil ?_)) | (refine is_aw ?_; (first | refine aw_seq ?_ | refine aw_region ?_ | refine aw_block ?_ | refine aw_ret ?_ | (refine is_cond ?_; refine aw_cond_t rfl (by assumption) ?_))) | refine thn_r ?_ | refine inb_r ?_)
    exact ret_raw trivial rfl ⟨by rw [h0], rfl⟩
  · have d2 : decide ([c] = s) = false := decide_eq_false h
    repeat' (first | (refine is_al ?_; (first | (refine is_gd ?_; refine al_on rfl rfl rfl (by assumption) ?_) | (refine is_move ?_; refine al_v (opx_move (.raw _)) ⟨rfl, trivial⟩ trivial rfl ?_) | (refine is_bin ?_; (first | refine al_v opx_eql ⟨rfl, rfl, trivial⟩ trivial rfl ?_ | refine al_v opx_seql ⟨rfl, rfl, trivial⟩ trivial rfl ?_)) | (refine is_assign ?_; refine al_v (opx_assign (.raw _)) ⟨rfl, trivial⟩ trivial rfl ?_) | (refine is_pick ?_; refine al_v (opx_pick_f (.raw _) rfl) ⟨rfl, rfl, trivial⟩ trivial rfl ?_) | (refine is_bi ?_; refine al_v opx_len_str ⟨rfl, trivial⟩ trivial rfl ?_) | (refine is_call ?_; refine al_callF (by (repeat (first | exact .nil | refine .one rfl rfl ?_ | refine .froz rfl rfl ?_ | refine .rnil rfl ?_ | refine .agg rfl (by (repeat (first | exact .nil | refine .cons (.same rfl) ?_ | refine .cons (.froz rfl) ?_ | refine .cons (.rnil) ?_)); (first | done | fail)) ?_)); (first | done | fail)) rfl (c_IndexByte s c hr) rfl ?_) | refine al_nil ?_ | refine al_v (opx_sidx (k := 0) rfl hc) ⟨rfl, rfl, trivial⟩ trivial rfl ?_)) | (refine is_ad ?_; refine al_v (opx_sidx (k := 0) rfl hc) ⟨rfl, rfl, trivial⟩ trivial rfl ?_) | (refine is_aw ?_; (first | refine aw_seq ?_ | refine aw_region ?_ | refine aw_block ?_ | refine aw_ret ?_ | (refine is_cond ?_; (first | refine aw_cond_t rfl rfl ?_ | refine aw_cond_f rfl (by assumption) ?_)))) | refine thn_r ?_ | refine inb_r ?_)
    exact ret_raw trivial rfl ⟨rfl, rfl⟩
theorem c_Cut0_t (x r : Str) (c : UInt8) (hx : c ∉ x) (hl : x.length + r.length ≤ 9000000000000000000) : Con Tryz.prog 40 [rStr (x ++ c :: r), rStr [c]] [] (fun rs all => rs = [rStr x, rStr r, rB true] ∧ all = []) := by
  refine con_of_aw (vars := [.tmp 4, .tmp 5, .tmp 6]) [(0, .r (rStr (x ++ c :: r))), (1, .r (rStr [c]))] [] 0 Tryz.func40 (by kernel_rfl) rfl Tryz.ntmps40 rfl (by decide) rfl rfl rfl rfl rfl ?_; intro B M w0 ρ0 Z0
  have d0 : decide (0 ≤ (x.length : Int)) = true := decide_eq_true (by omega)
  have l1 : ([c] : Str).length = 1 := rfl
  have l2 : (x ++ c :: r).length = x.length + (r.length + 1) := by rw [List.length_append, List.length_cons]
  have e1 : ((x ++ c :: r).take x.length).drop 0 = x := by rw [List.drop_zero, List.take_left']; rfl
  have e2 : ((x ++ c :: r).take (x ++ c :: r).length).drop (x.length + 1) = r := by
    rw [List.take_length, show x.length + 1 = (x ++ [c]).length by simp, show x ++ c :: r = (x ++ [c]) ++ r by simp, List.drop_left']; rfl
  repeat' (first | (refine is_al ?_; (first | (refine is_move ?_; refine al_v (opx_move (.raw _)) ⟨rfl, trivial⟩ trivial rfl ?_) | (refine is_bin ?_; refine al_v opx_geq ⟨rfl, rfl, trivial⟩ trivial rfl ?_) | (refine is_assign ?_; refine al_v (opx_assign (.raw _)) ⟨rfl, trivial⟩ trivial rfl ?_) | (refine is_call ?_; refine al_callF (by (repeat (first | exact .nil | refine .one rfl rfl ?_ | refine .froz rfl rfl ?_ | refine .rnil rfl ?_ | refine .agg rfl (by (repeat (first | exact .nil | refine .cons (.same rfl) ?_ | refine .cons (.froz rfl) ?_ | refine .cons (.rnil) ?_)); (first | done | fail)) ?_)); (first | done | fail)) rfl (c_Index _ c (idx_t hx)) rfl ?_) | refine al_nil ?_ | refine ad_v (opx_cutH_str (h := x.length) e1 rfl (by omega)) ⟨rfl, rfl, trivial⟩ trivial rfl ?_ | refine ad_v (opx_cutL_str (l := x.length + 1) e2 (by omega) (by omega)) ⟨rfl, rfl, trivial⟩ trivial rfl ?_)) | (refine is_ad ?_; (first | (refine isd_move ?_; refine ad_v (opx_move (.raw _)) ⟨rfl, trivial⟩ trivial rfl ?_) | (refine isd_bin ?_; refine ad_v (opx_add (by unfold InR; omega)) ⟨rfl, rfl, trivial⟩ trivial rfl ?_) | (refine isd_assign ?_; refine ad_v (opx_assign (.raw _)) ⟨rfl, trivial⟩ trivial rfl ?_) | (refine isd_bi ?_; refine ad_v opx_len_str ⟨rfl, trivial⟩ trivial rfl ?_) | refine ad_nil (by kernel_rfl) ?_ | refine ad_v (opx_cutH_str (h := x.length) e1 rfl (by omega)) ⟨rfl, rfl, trivial⟩ trivial rfl ?_ | refine ad_v (opx_cutL_str (l := x.length + 1) e2 (by omega) (by omega)) ⟨rfl, rfl, trivial⟩ trivial rfl ?_)) | (refine is_aw ?_; (first | refine aw_seq ?_ | refine aw_region ?_ | refine aw_ret ?_ | (refine is_cond ?_; refine aw_cond_t rfl rfl ?_) | refine aw_draw mixed ?_)) | refine thn_r ?_)
  exact ret_raw3 trivial rfl rfl rfl ⟨rfl, rfl⟩
theorem c_Cut0_f (s : Str) (c : UInt8) (hx : c ∉ s) : Con Tryz.prog 40 [rStr s, rStr [c]] [] (fun rs all => rs = [rStr s, rStr [], rB false] ∧ all = []) := by
  refine con_of_aw (vars := [.tmp 4, .tmp 5, .tmp 6]) [(0, .r (rStr s)), (1, .r (rStr [c]))] [] 0 Tryz.func40 (by kernel_rfl) rfl Tryz.ntmps40 rfl (by decide) rfl rfl rfl rfl rfl ?_; intro B M w0 ρ0 Z0
  have d0 : decide ((0 : Int) ≤ -1) = false := rfl
  repeat' (first | (refine is_al ?_; (first | (refine is_move ?_; refine al_v (opx_move (.raw _)) ⟨rfl, trivial⟩ trivial rfl ?_) | (refine is_bin ?_; refine al_v opx_geq ⟨rfl, rfl, trivial⟩ trivial rfl ?_) | (refine is_assign ?_; refine al_v (opx_assign (.raw _)) ⟨rfl, trivial⟩ trivial rfl ?_) | (refine is_call ?_; refine al_callF (by (repeat (first | exact .nil | refine .one rfl rfl ?_ | refine .froz rfl rfl ?_ | refine .rnil rfl ?_ | refine .agg rfl (by (repeat (first | exact .nil | refine .cons (.same rfl) ?_ | refine .cons (.froz rfl) ?_ | refine .cons (.rnil) ?_)); (first | done | fail)) ?_)); (first | done | fail)) rfl (c_Index _ c (idx_f hx)) rfl ?_) | refine al_nil ?_)) | (refine is_aw ?_; (first | refine aw_seq ?_ | refine aw_region ?_ | refine aw_skip ?_ | refine aw_ret ?_ | (refine is_cond ?_; refine aw_cond_f rfl rfl ?_))))
  exact ret_raw3 trivial rfl rfl rfl ⟨rfl, rfl⟩
theorem c_Cut_t (x r : Str) (c : UInt8) (hx : c ∉ x) (hl : x.length + r.length ≤ 9000000000000000000) : Con Tryz.prog 25 [rStr (x ++ c :: r), rStr [c]] [] (fun rs all => rs = [rStr x, rStr r, rB true] ∧ all = []) := by
  refine con_of_aw (vars := [.tmp 4, .tmp 5, .tmp 6]) [(0, .r (rStr (x ++ c :: r))), (1, .r (rStr [c]))] [] 0 Tryz.func25 (by kernel_rfl) rfl Tryz.ntmps25 rfl (by decide) rfl rfl rfl rfl rfl ?_; intro B M w0 ρ0 Z0
  repeat' (first | (refine is_al ?_; (first | (refine is_move ?_; refine al_v (opx_move (.raw _)) ⟨rfl, trivial⟩ trivial rfl ?_) | (refine is_assign ?_; refine al_v (opx_assign (.raw _)) ⟨rfl, trivial⟩ trivial rfl ?_) | (refine is_call ?_; refine al_callF (by (repeat (first | exact .nil | refine .one rfl rfl ?_ | refine .froz rfl rfl ?_ | refine .rnil rfl ?_ | refine .agg rfl (by (repeat (first | exact .nil | refine .cons (.same rfl) ?_ | refine .cons (.froz rfl) ?_ | refine .cons (.rnil) ?_)); (first | done | fail)) ?_)); (first | done | fail)) rfl (c_Cut0_t x r c hx hl) rfl ?_) | refine al_v (opx_extract _ rfl) ⟨rfl, trivial⟩ trivial rfl ?_ | refine al_nil ?_)) | (refine is_aw ?_; (first | refine aw_seq ?_ | refine aw_region ?_ | refine aw_ret ?_)))
  exact ret_raw3 trivial rfl rfl rfl ⟨rfl, rfl⟩
theorem c_Cut_f (s : Str) (c : UInt8) (hx : c ∉ s) : Con Tryz.prog 25 [rStr s, rStr [c]] [] (fun rs all => rs = [rStr s, rStr [], rB false] ∧ all = []) := by
  refine con_of_aw (vars := [.tmp 4, .tmp 5, .tmp 6]) [(0, .r (rStr s)), (1, .r (rStr [c]))] [] 0 Tryz.func25 (by kernel_rfl) rfl Tryz.ntmps25 rfl (by decide) rfl rfl rfl rfl rfl ?_; intro B M w0 ρ0 Z0
  repeat' (first | (refine is_al ?_; (first | (refine is_move ?_; refine al_v (opx_move (.raw _)) ⟨rfl, trivial⟩ trivial rfl ?_) | (refine is_assign ?_; refine al_v (opx_assign (.raw _)) ⟨rfl, trivial⟩ trivial rfl ?_) | (refine is_call ?_; refine al_callF (by (repeat (first | exact .nil | refine .one rfl rfl ?_ | refine .froz rfl rfl ?_ | refine .rnil rfl ?_ | refine .agg rfl (by (repeat (first | exact .nil | refine .cons (.same rfl) ?_ | refine .cons (.froz rfl) ?_ | refine .cons (.rnil) ?_)); (first | done | fail)) ?_)); (first | done | fail)) rfl (c_Cut0_f s c hx) rfl ?_) | refine al_v (opx_extract _ rfl) ⟨rfl, trivial⟩ trivial rfl ?_ | refine al_nil ?_)) | (refine is_aw ?_; (first | refine aw_seq ?_ | refine aw_region ?_ | refine aw_ret ?_)))
  exact ret_raw3 trivial rfl rfl rfl ⟨rfl, rfl⟩
theorem c_HasPrefix_t (c : UInt8) (r : Str) : Con Tryz.prog 123 [rStr (c :: r), rStr [c]] [] (fun rs all => rs = [rB true] ∧ all = []) := by
  refine con_of_aw (vars := [.tmp 4]) [(0, .r (rStr (c :: r))), (1, .r (rStr [c]))] [] 0 Tryz.func123 (by kernel_rfl) rfl Tryz.ntmps123 rfl (by decide) rfl rfl rfl rfl rfl ?_; intro B M w0 ρ0 Z0
  have l1 : ([c] : Str).length = 1 := rfl
  have l2 : (c :: r : Str).length = r.length + 1 := rfl
  have d0 : decide ((([c] : Str).length : Int) ≤ ((c :: r : Str).length : Int)) = true := decide_eq_true (by omega)
  have e1 : ((c :: r : Str).take 1).drop 0 = [c] := rfl
  repeat' (first | (refine is_al ?_; (first | (refine is_gd ?_; refine al_on rfl rfl rfl (by assumption) ?_) | (refine is_move ?_; refine al_v (opx_move (.raw _)) ⟨rfl, trivial⟩ trivial rfl ?_) | (refine is_bin ?_; (first | refine al_v opx_geq ⟨rfl, rfl, trivial⟩ trivial rfl ?_ | refine al_v opx_seql ⟨rfl, rfl, trivial⟩ trivial rfl ?_)) | (refine is_assign ?_; refine al_v (opx_assign (.raw _)) ⟨rfl, trivial⟩ trivial rfl ?_) | (refine is_pick ?_; refine al_v (opx_pick_t (.raw _) (by assumption)) ⟨rfl, rfl, trivial⟩ trivial rfl ?_) | (refine is_bi ?_; refine al_v opx_len_str ⟨rfl, trivial⟩ trivial rfl ?_) | refine al_nil ?_ | refine al_v (opx_cutH_str (h := 1) e1 rfl (by omega)) ⟨rfl, rfl, trivial⟩ trivial rfl ?_)) | (refine is_ad ?_; refine al_v (opx_cutH_str (h := 1) e1 rfl (by omega)) ⟨rfl, rfl, trivial⟩ trivial rfl ?_) | (refine is_aw ?_; (first | refine aw_seq ?_ | refine aw_region ?_ | refine aw_ret ?_)))
  exact ret_raw trivial rfl ⟨by rw [eqD], rfl⟩
theorem c_HasPrefix_f (c : UInt8) (s : Str) (h : s.head? ≠ some c) : Con Tryz.prog 123 [rStr s, rStr [c]] [] (fun rs all => rs = [rB false] ∧ all = []) := by
  refine con_of_aw (vars := [.tmp 4]) [(0, .r (rStr s)), (1, .r (rStr [c]))] [] 0 Tryz.func123 (by kernel_rfl) rfl Tryz.ntmps123 rfl (by decide) rfl rfl rfl rfl rfl ?_; intro B M w0 ρ0 Z0
  have l1 : ([c] : Str).length = 1 := rfl
  cases s with
  | nil =>
    have l2 : ([] : Str).length = 0 := rfl
    have d0 : decide ((([c] : Str).length : Int) ≤ (([] : Str).length : Int)) = false := decide_eq_false (by omega)
    repeat' (first | (refine is_al ?_; (first | (refine is_gd ?_; refine al_off rfl rfl rfl (by assumption) rfl ?_) | (refine is_move ?_; refine al_v (opx_move (.raw _)) ⟨rfl, trivial⟩ trivial rfl ?_) | (refine is_bin ?_; refine al_v opx_geq ⟨rfl, rfl, trivial⟩ trivial rfl ?_) | (refine is_assign ?_; refine al_v (opx_assign (.raw _)) ⟨rfl, trivial⟩ trivial rfl ?_) | (refine is_pick ?_; refine al_v (opx_pick_f (.raw _) rfl) ⟨rfl, rfl, trivial⟩ trivial rfl ?_) | (refine is_bi ?_; refine al_v opx_len_str ⟨rfl, trivial⟩ trivial rfl ?_) | refine al_nil ?_)) | (refine is_aw ?_; (first | refine aw_seq ?_ | refine aw_region ?_ | refine aw_ret ?_)))
    exact ret_raw trivial rfl ⟨rfl, rfl⟩
  | cons a r =>
    have l2 : (a :: r : Str).length = r.length + 1 := rfl
    have d0 : decide ((([c] : Str).length : Int) ≤ ((a :: r : Str).length : Int)) = true := decide_eq_true (by omega)
    have e1 : ((a :: r : Str).take 1).drop 0 = [a] := rfl
    have d2 : decide ([a] = [c]) = false := decide_eq_false (fun e => h (by rw [List.head?_cons]; simpa using e))
    repeat' (first | (refine is_al ?_; (first | (refine is_gd ?_; refine al_on rfl rfl rfl (by assumption) ?_) | (refine is_move ?_; refine al_v (opx_move (.raw _)) ⟨rfl, trivial⟩ trivial rfl ?_) | (refine is_bin ?_; (first | refine al_v opx_geq ⟨rfl, rfl, trivial⟩ trivial rfl ?_ | refine al_v opx_seql ⟨rfl, rfl, trivial⟩ trivial rfl ?_)) | (refine is_assign ?_; refine al_v (opx_assign (.raw _)) ⟨rfl, trivial⟩ trivial rfl ?_) | (refine is_pick ?_; refine al_v (opx_pick_t (.raw _) (by assumption)) ⟨rfl, rfl, trivial⟩ trivial rfl ?_) | (refine is_bi ?_; refine al_v opx_len_str ⟨rfl, trivial⟩ trivial rfl ?_) | refine al_nil ?_ | refine al_v (opx_cutH_str (h := 1) e1 rfl (by omega)) ⟨rfl, rfl, trivial⟩ trivial rfl ?_)) | (refine is_ad ?_; refine al_v (opx_cutH_str (h := 1) e1 rfl (by omega)) ⟨rfl, rfl, trivial⟩ trivial rfl ?_) | (refine is_aw ?_; (first | refine aw_seq ?_ | refine aw_region ?_ | refine aw_ret ?_)))
    exact ret_raw trivial rfl ⟨by rw [d2], rfl⟩
theorem c_HasSuffix_t (c : UInt8) (x : Str) (hl : x.length ≤ 9000000000000000000) : Con Tryz.prog 124 [rStr (x ++ [c]), rStr [c]] [] (fun rs all => rs = [rB true] ∧ all = []) := by
  refine con_of_aw (vars := [.tmp 4]) [(0, .r (rStr (x ++ [c]))), (1, .r (rStr [c]))] [] 0 Tryz.func124 (by kernel_rfl) rfl Tryz.ntmps124 rfl (by decide) rfl rfl rfl rfl rfl ?_; intro B M w0 ρ0 Z0
  have l1 : ([c] : Str).length = 1 := rfl
  have l2 : (x ++ [c]).length = x.length + 1 := by rw [List.length_append]; rfl
  have d0 : decide ((([c] : Str).length : Int) ≤ ((x ++ [c]).length : Int)) = true := decide_eq_true (by omega)
  have e1 : ((x ++ [c]).take (x ++ [c]).length).drop x.length = [c] := by rw [List.take_length, List.drop_left']; rfl
  repeat' (first | (refine is_al ?_; (first | (refine is_gd ?_; refine al_on rfl rfl rfl (by assumption) ?_) | (refine is_move ?_; refine al_v (opx_move (.raw _)) ⟨rfl, trivial⟩ trivial rfl ?_) | (refine is_bin ?_; (first | refine al_v opx_geq ⟨rfl, rfl, trivial⟩ trivial rfl ?_ | refine al_v (opx_sub (by unfold InR; omega)) ⟨rfl, rfl, trivial⟩ trivial rfl ?_ | refine al_v opx_seql ⟨rfl, rfl, trivial⟩ trivial rfl ?_)) | (refine is_assign ?_; refine al_v (opx_assign (.raw _)) ⟨rfl, trivial⟩ trivial rfl ?_) | (refine is_pick ?_; refine al_v (opx_pick_t (.raw _) (by assumption)) ⟨rfl, rfl, trivial⟩ trivial rfl ?_) | (refine is_bi ?_; refine al_v opx_len_str ⟨rfl, trivial⟩ trivial rfl ?_) | refine al_nil ?_ | refine al_v (opx_cutL_str (l := x.length) e1 (by omega) (by omega)) ⟨rfl, rfl, trivial⟩ trivial rfl ?_)) | (refine is_ad ?_; refine al_v (opx_cutL_str (l := x.length) e1 (by omega) (by omega)) ⟨rfl, rfl, trivial⟩ trivial rfl ?_) | (refine is_aw ?_; (first | refine aw_seq ?_ | refine aw_region ?_ | refine aw_ret ?_)))
  exact ret_raw trivial rfl ⟨by rw [eqD], rfl⟩
theorem c_HasSuffix_f (c : UInt8) (s : Str) (h : s.getLast? ≠ some c) (hl : s.length ≤ 9000000000000000000) : Con Tryz.prog 124 [rStr s, rStr [c]] [] (fun rs all => rs = [rB false] ∧ all = []) := by
  refine con_of_aw (vars := [.tmp 4]) [(0, .r (rStr s)), (1, .r (rStr [c]))] [] 0 Tryz.func124 (by kernel_rfl) rfl Tryz.ntmps124 rfl (by decide) rfl rfl rfl rfl rfl ?_; intro B M w0 ρ0 Z0
  have l1 : ([c] : Str).length = 1 := rfl
  rcases List.eq_nil_or_concat s with rfl | ⟨x, a, rfl⟩
  · have l2 : ([] : Str).length = 0 := rfl
    have d0 : decide ((([c] : Str).length : Int) ≤ (([] : Str).length : Int)) = false := decide_eq_false (by omega)
    repeat' (first | (refine is_al ?_; (first | (refine is_gd ?_; refine al_off rfl rfl rfl (by assumption) rfl ?_) | (refine is_move ?_; refine al_v (opx_move (.raw _)) ⟨rfl, trivial⟩ trivial rfl ?_) | (refine is_bin ?_; refine al_v opx_geq ⟨rfl, rfl, trivial⟩ trivial rfl ?_) | (refine is_assign ?_; refine al_v (opx_assign (.raw _)) ⟨rfl, trivial⟩ trivial rfl ?_) | (refine is_pick ?_; refine al_v (opx_pick_f (.raw _) rfl) ⟨rfl, rfl, trivial⟩ trivial rfl ?_) | (refine is_bi ?_; refine al_v opx_len_str ⟨rfl, trivial⟩ trivial rfl ?_) | refine al_nil ?_)) | (refine is_aw ?_; (first | refine aw_seq ?_ | refine aw_region ?_ | refine aw_ret ?_)))
    exact ret_raw trivial rfl ⟨rfl, rfl⟩
  · rw [List.concat_eq_append] at h hl ⊢
    have l2 : (x ++ [a]).length = x.length + 1 := by rw [List.length_append]; rfl
    have d0 : decide ((([c] : Str).length : Int) ≤ ((x ++ [a]).length : Int)) = true := decide_eq_true (by omega)
    have e1 : ((x ++ [a]).take (x ++ [a]).length).drop x.length = [a] := by rw [List.take_length, List.drop_left']; rfl
    have d2 : decide ([a] = [c]) = false := decide_eq_false (fun e => h (by rw [List.getLast?_append]; simpa using e))
    repeat' (first | (refine is_al ?_; (first | (refine is_gd ?_; refine al_on rfl rfl rfl (by assumption) ?_) | (refine is_move ?_; refine al_v (opx_move (.raw _)) ⟨rfl, trivial⟩ trivial rfl ?_) | (refine is_bin ?_; (first | refine al_v opx_geq ⟨rfl, rfl, trivial⟩ trivial rfl ?_ | refine al_v (opx_sub (by unfold InR; omega)) ⟨rfl, rfl, trivial⟩ trivial rfl ?_ | refine al_v opx_seql ⟨rfl, rfl, trivial⟩ trivial rfl ?_)) | (refine is_assign ?_; refine al_v (opx_assign (.raw _)) ⟨rfl, trivial⟩ trivial rfl ?_) | (refine is_pick ?_; refine al_v (opx_pick_t (.raw _) (by assumption)) ⟨rfl, rfl, trivial⟩ trivial rfl ?_) | (refine is_bi ?_; refine al_v opx_len_str ⟨rfl, trivial⟩ trivial rfl ?_) | refine al_nil ?_ | refine al_v (opx_cutL_str (l := x.length) e1 (by omega) (by omega)) ⟨rfl, rfl, trivial⟩ trivial rfl ?_)) | (refine is_ad ?_; refine al_v (opx_cutL_str (l := x.length) e1 (by omega) (by omega)) ⟨rfl, rfl, trivial⟩ trivial rfl ?_) | (refine is_aw ?_; (first | refine aw_seq ?_ | refine aw_region ?_ | refine aw_ret ?_)))
    exact ret_raw trivial rfl ⟨by rw [d2], rfl⟩
theorem c_CutPrefix_t (c : UInt8) (r : Str) : Con Tryz.prog 72 [rStr (c :: r), rStr [c]] [] (fun rs all => rs = [rStr r, rB true] ∧ all = []) := by
  have h0 : Con Tryz.prog 102 [rStr (c :: r), rStr [c]] [] (fun rs all => rs = [rStr r, rB true] ∧ all = []) := by
    refine con_of_aw (vars := [.tmp 4, .tmp 5]) [(0, .r (rStr (c :: r))), (1, .r (rStr [c]))] [] 0 Tryz.func102 (by kernel_rfl) rfl Tryz.ntmps102 rfl (by decide) rfl rfl rfl rfl rfl ?_
    intro B M w0 ρ0 Z0
    have n1 : (!true) = false := rfl
    have l2 : (c :: r : Str).length = r.length + 1 := rfl
    have e1 : ((c :: r : Str).take (c :: r : Str).length).drop 1 = r := by rw [List.take_length]; rfl
    repeat' (first | (refine is_al ?_; (first | (refine is_move ?_; refine al_v (opx_move (.raw _)) ⟨rfl, trivial⟩ trivial rfl ?_) | (refine is_assign ?_; refine al_v (opx_assign (.raw _)) ⟨rfl, trivial⟩ trivial rfl ?_) | (refine is_bi ?_; refine al_v opx_len_str ⟨rfl, trivial⟩ trivial rfl ?_) | (refine is_call ?_; refine al_callF (by (repeat (first | exact .nil | refine .one rfl rfl ?_ | refine .froz rfl rfl ?_ | refine .rnil rfl ?_ | refine .agg rfl (by (repeat (first | exact .nil | refine .cons (.same rfl) ?_ | refine .cons (.froz rfl) ?_ | refine .cons (.rnil) ?_)); (first | done | fail)) ?_)); (first | done | fail)) rfl (c_HasPrefix_t c r) rfl ?_) | refine al_v opx_not ⟨rfl, trivial⟩ trivial rfl ?_ | refine al_nil ?_ | refine al_v (opx_cutL_str (l := 1) e1 rfl (by omega)) ⟨rfl, rfl, trivial⟩ trivial rfl ?_)) | (refine is_ad ?_; refine al_v (opx_cutL_str (l := 1) e1 rfl (by omega)) ⟨rfl, rfl, trivial⟩ trivial rfl ?_) | (refine is_aw ?_; (first | refine aw_seq ?_ | refine aw_region ?_ | refine aw_skip ?_ | refine aw_ret ?_ | (refine is_cond ?_; refine aw_cond_f rfl rfl ?_))))
    exact ret_raw2 trivial rfl rfl ⟨rfl, rfl⟩
  refine con_of_aw (vars := [.tmp 4, .tmp 5]) [(0, .r (rStr (c :: r))), (1, .r (rStr [c]))] [] 0 Tryz.func72 (by kernel_rfl) rfl Tryz.ntmps72 rfl (by decide) rfl rfl rfl rfl rfl ?_; intro B M w0 ρ0 Z0
  repeat' (first | (refine is_al ?_; (first | (refine is_move ?_; refine al_v (opx_move (.raw _)) ⟨rfl, trivial⟩ trivial rfl ?_) | (refine is_assign ?_; refine al_v (opx_assign (.raw _)) ⟨rfl, trivial⟩ trivial rfl ?_) | (refine is_call ?_; refine al_callF (by (repeat (first | exact .nil | refine .one rfl rfl ?_ | refine .froz rfl rfl ?_ | refine .rnil rfl ?_ | refine .agg rfl (by (repeat (first | exact .nil | refine .cons (.same rfl) ?_ | refine .cons (.froz rfl) ?_ | refine .cons (.rnil) ?_)); (first | done | fail)) ?_)); (first | done | fail)) rfl (h0) rfl ?_) | refine al_v (opx_extract _ rfl) ⟨rfl, trivial⟩ trivial rfl ?_ | refine al_nil ?_)) | (refine is_aw ?_; (first | refine aw_seq ?_ | refine aw_region ?_ | refine aw_ret ?_)))
  exact ret_raw2 trivial rfl rfl ⟨rfl, rfl⟩
theorem c_CutPrefix_f (c : UInt8) (s : Str) (h : s.head? ≠ some c) : Con Tryz.prog 72 [rStr s, rStr [c]] [] (fun rs all => rs = [rStr s, rB false] ∧ all = []) := by
  have h0 : Con Tryz.prog 102 [rStr s, rStr [c]] [] (fun rs all => rs = [rStr s, rB false] ∧ all = []) := by
    refine con_of_aw (vars := [.tmp 4, .tmp 5]) [(0, .r (rStr s)), (1, .r (rStr [c]))] [] 0 Tryz.func102 (by kernel_rfl) rfl Tryz.ntmps102 rfl (by decide) rfl rfl rfl rfl rfl ?_
    intro B M w0 ρ0 Z0
    have n2 : (!false) = true := rfl
    repeat' (first | (refine is_al ?_; (first | (refine is_move ?_; refine al_v (opx_move (.raw _)) ⟨rfl, trivial⟩ trivial rfl ?_) | (refine is_assign ?_; refine al_v (opx_assign (.raw _)) ⟨rfl, trivial⟩ trivial rfl ?_) | (refine is_call ?_; refine al_callF (by (repeat (first | exact .nil | refine .one rfl rfl ?_ | refine .froz rfl rfl ?_ | refine .rnil rfl ?_ | refine .agg rfl (by (repeat (first | exact .nil | refine .cons (.same rfl) ?_ | refine .cons (.froz rfl) ?_ | refine .cons (.rnil) ?_)); (first | done | fail)) ?_)); (first | done | fail)) rfl (c_HasPrefix_f c s h) rfl ?_) | refine al_v opx_not ⟨rfl, trivial⟩ trivial rfl ?_ | refine al_nil ?_)) | (refine is_aw ?_; (first | refine aw_seq ?_ | refine aw_region ?_ | refine aw_ret ?_ | (refine is_cond ?_; refine aw_cond_t rfl rfl ?_))) | refine thn_r ?_)
    exact ret_raw2 trivial rfl rfl ⟨rfl, rfl⟩
  refine con_of_aw (vars := [.tmp 4, .tmp 5]) [(0, .r (rStr s)), (1, .r (rStr [c]))] [] 0 Tryz.func72 (by kernel_rfl) rfl Tryz.ntmps72 rfl (by decide) rfl rfl rfl rfl rfl ?_; intro B M w0 ρ0 Z0
  repeat' (first | (refine is_al ?_; (first | (refine is_move ?_; refine al_v (opx_move (.raw _)) ⟨rfl, trivial⟩ trivial rfl ?_) | (refine is_assign ?_; refine al_v (opx_assign (.raw _)) ⟨rfl, trivial⟩ trivial rfl ?_) | (refine is_call ?_; refine al_callF (by (repeat (first | exact .nil | refine .one rfl rfl ?_ | refine .froz rfl rfl ?_ | refine .rnil rfl ?_ | refine .agg rfl (by (repeat (first | exact .nil | refine .cons (.same rfl) ?_ | refine .cons (.froz rfl) ?_ | refine .cons (.rnil) ?_)); (first | done | fail)) ?_)); (first | done | fail)) rfl (h0) rfl ?_) | refine al_v (opx_extract _ rfl) ⟨rfl, trivial⟩ trivial rfl ?_ | refine al_nil ?_)) | (refine is_aw ?_; (first | refine aw_seq ?_ | refine aw_region ?_ | refine aw_ret ?_)))
  exact ret_raw2 trivial rfl rfl ⟨rfl, rfl⟩
theorem c_CutSuffix_t (c : UInt8) (x : Str) (hl : x.length ≤ 9000000000000000000) : Con Tryz.prog 73 [rStr (x ++ [c]), rStr [c]] [] (fun rs all => rs = [rStr x, rB true] ∧ all = []) := by
  have h0 : Con Tryz.prog 103 [rStr (x ++ [c]), rStr [c]] [] (fun rs all => rs = [rStr x, rB true] ∧ all = []) := by
    refine con_of_aw (vars := [.tmp 4, .tmp 5]) [(0, .r (rStr (x ++ [c]))), (1, .r (rStr [c]))] [] 0 Tryz.func103 (by kernel_rfl) rfl Tryz.ntmps103 rfl (by decide) rfl rfl rfl rfl rfl ?_
    intro B M w0 ρ0 Z0
    have n1 : (!true) = false := rfl
    have l1 : ([c] : Str).length = 1 := rfl
    have l2 : (x ++ [c]).length = x.length + 1 := by rw [List.length_append]; rfl
    have e1 : ((x ++ [c]).take x.length).drop 0 = x := by rw [List.drop_zero, List.take_left']; rfl
    repeat' (first | (refine is_al ?_; (first | (refine is_move ?_; refine al_v (opx_move (.raw _)) ⟨rfl, trivial⟩ trivial rfl ?_) | (refine is_bin ?_; refine al_v (opx_sub (by unfold InR; omega)) ⟨rfl, rfl, trivial⟩ trivial rfl ?_) | (refine is_assign ?_; refine al_v (opx_assign (.raw _)) ⟨rfl, trivial⟩ trivial rfl ?_) | (refine is_bi ?_; refine al_v opx_len_str ⟨rfl, trivial⟩ trivial rfl ?_) | (refine is_call ?_; refine al_callF (by (repeat (first | exact .nil | refine .one rfl rfl ?_ | refine .froz rfl rfl ?_ | refine .rnil rfl ?_ | refine .agg rfl (by (repeat (first | exact .nil | refine .cons (.same rfl) ?_ | refine .cons (.froz rfl) ?_ | refine .cons (.rnil) ?_)); (first | done | fail)) ?_)); (first | done | fail)) rfl (c_HasSuffix_t c x hl) rfl ?_) | refine al_v opx_not ⟨rfl, trivial⟩ trivial rfl ?_ | refine al_nil ?_ | refine al_v (opx_cutH_str (h := x.length) e1 (by omega) (by omega)) ⟨rfl, rfl, trivial⟩ trivial rfl ?_)) | (refine is_ad ?_; refine al_v (opx_cutH_str (h := x.length) e1 (by omega) (by omega)) ⟨rfl, rfl, trivial⟩ trivial rfl ?_) | (refine is_aw ?_; (first | refine aw_seq ?_ | refine aw_region ?_ | refine aw_skip ?_ | refine aw_ret ?_ | (refine is_cond ?_; refine aw_cond_f rfl rfl ?_))))
    exact ret_raw2 trivial rfl rfl ⟨rfl, rfl⟩
  refine con_of_aw (vars := [.tmp 4, .tmp 5]) [(0, .r (rStr (x ++ [c]))), (1, .r (rStr [c]))] [] 0 Tryz.func73 (by kernel_rfl) rfl Tryz.ntmps73 rfl (by decide) rfl rfl rfl rfl rfl ?_; intro B M w0 ρ0 Z0
  repeat' (first | (refine is_al ?_; (first | (refine is_move ?_; refine al_v (opx_move (.raw _)) ⟨rfl, trivial⟩ trivial rfl ?_) | (refine is_assign ?_; refine al_v (opx_assign (.raw _)) ⟨rfl, trivial⟩ trivial rfl ?_) | (refine is_call ?_; refine al_callF (by (repeat (first | exact .nil | refine .one rfl rfl ?_ | refine .froz rfl rfl ?_ | refine .rnil rfl ?_ | refine .agg rfl (by (repeat (first | exact .nil | refine .cons (.same rfl) ?_ | refine .cons (.froz rfl) ?_ | refine .cons (.rnil) ?_)); (first | done | fail)) ?_)); (first | done | fail)) rfl (h0) rfl ?_) | refine al_v (opx_extract _ rfl) ⟨rfl, trivial⟩ trivial rfl ?_ | refine al_nil ?_)) | (refine is_aw ?_; (first | refine aw_seq ?_ | refine aw_region ?_ | refine aw_ret ?_)))
  exact ret_raw2 trivial rfl rfl ⟨rfl, rfl⟩
theorem c_CutSuffix_f (c : UInt8) (s : Str) (h : s.getLast? ≠ some c) (hl : s.length ≤ 9000000000000000000) : Con Tryz.prog 73 [rStr s, rStr [c]] [] (fun rs all => rs = [rStr s, rB false] ∧ all = []) := by
  have h0 : Con Tryz.prog 103 [rStr s, rStr [c]] [] (fun rs all => rs = [rStr s, rB false] ∧ all = []) := by
    refine con_of_aw (vars := [.tmp 4, .tmp 5]) [(0, .r (rStr s)), (1, .r (rStr [c]))] [] 0 Tryz.func103 (by kernel_rfl) rfl Tryz.ntmps103 rfl (by decide) rfl rfl rfl rfl rfl ?_
    intro B M w0 ρ0 Z0
    have n2 : (!false) = true := rfl
    repeat' (first | (refine is_al ?_; (first | (refine is_move ?_; refine al_v (opx_move (.raw _)) ⟨rfl, trivial⟩ trivial rfl ?_) | (refine is_assign ?_; refine al_v (opx_assign (.raw _)) ⟨rfl, trivial⟩ trivial rfl ?_) | (refine is_call ?_; refine al_callF (by (repeat (first | exact .nil | refine .one rfl rfl ?_ | refine .froz rfl rfl ?_ | refine .rnil rfl ?_ | refine .agg rfl (by (repeat (first | exact .nil | refine .cons (.same rfl) ?_ | refine .cons (.froz rfl) ?_ | refine .cons (.rnil) ?_)); (first | done | fail)) ?_)); (first | done | fail)) rfl (c_HasSuffix_f c s h hl) rfl ?_) | refine al_v opx_not ⟨rfl, trivial⟩ trivial rfl ?_ | refine al_nil ?_)) | (refine is_aw ?_; (first | refine aw_seq ?_ | refine aw_region ?_ | refine aw_ret ?_ | (refine is_cond ?_; refine aw_cond_t rfl rfl ?_))) | refine thn_r ?_)
    exact ret_raw2 trivial rfl rfl ⟨rfl, rfl⟩
  refine con_of_aw (vars := [.tmp 4, .tmp 5]) [(0, .r (rStr s)), (1, .r (rStr [c]))] [] 0 Tryz.func73 (by kernel_rfl) rfl Tryz.ntmps73 rfl (by decide) rfl rfl rfl rfl rfl ?_; intro B M w0 ρ0 Z0
  repeat' (first | (refine is_al ?_; (first | (refine is_move ?_; refine al_v (opx_move (.raw _)) ⟨rfl, trivial⟩ trivial rfl ?_) | (refine is_assign ?_; refine al_v (opx_assign (.raw _)) ⟨rfl, trivial⟩ trivial rfl ?_) | (refine is_call ?_; refine al_callF (by (repeat (first | exact .nil | refine .one rfl rfl ?_ | refine .froz rfl rfl ?_ | refine .rnil rfl ?_ | refine .agg rfl (by (repeat (first | exact .nil | refine .cons (.same rfl) ?_ | refine .cons (.froz rfl) ?_ | refine .cons (.rnil) ?_)); (first | done | fail)) ?_)); (first | done | fail)) rfl (h0) rfl ?_) | refine al_v (opx_extract _ rfl) ⟨rfl, trivial⟩ trivial rfl ?_ | refine al_nil ?_)) | (refine is_aw ?_; (first | refine aw_seq ?_ | refine aw_region ?_ | refine aw_ret ?_)))
  exact ret_raw2 trivial rfl rfl ⟨rfl, rfl⟩
end Go.Proofs.YtfoecgfboicphaaGreatDoor
