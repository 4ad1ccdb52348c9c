/-
  Calls of the reader's functions whose answers are values; ends.
-/
import Derived.Test.YtllgddednlfhfaaDoorDat2
namespace Go.Proofs.YtllgddednlfhfaaDoor
open Go.RowKit
set_option linter.unusedVariables false
set_option linter.unusedSimpArgs false
theorem eqD {α : Type} [DecidableEq α] (x : α) : decide (x = x) = true := by simp
theorem neD {α : Type} [DecidableEq α] (x : α) : (!decide (x = x)) = false := by simp
theorem eqBB (x : Bool) : (x == x) = true := by cases x <;> rfl
theorem neBB (x : Bool) : (!(x == x)) = false := by cases x <;> rfl
/-- What a function of the reader answers: values. -/
abbrev RdG {γ : Type} (bs : List UInt8) (mk : γ → List AR) (Φ : γ → Int → Prop) (rs : List AR) (all : List OB) : Prop := ∃ (g : γ) (q : Int), rs = mk g ∧ all = [rdO bs q] ∧ noTags (mk g) = true ∧ Φ g q
section
variable {P : Program} {ops : Array Oper} {cx : Cx} {Q : APost} {rest : List Oper} {l : SL} {m : OL} {n d : Nat} {ty : TypeId} {pos : String} {af : Array Edge} {f : FuncId} {xs : List Operand} {ats : Array TypeId} {args : List AR}
theorem al_rdg {γ : Type} {bs : List UInt8} {p : Int} {mk : γ → List AR} {Φ : γ → Int → Prop} (t : Nat) (hm : lk .gone m t = rdO bs p) (ht : Nat.blt t n = true) (ha : Args (lk .dead l) (lk .gone m) (cpi [t] n) false xs args) (hd : Nat.blt d cx.N = true)
    (hc : Con P f args [rdO bs p] (RdG bs mk Φ)) (k : ∀ g q, Φ g q → AL P ops cx Q rest ((d, mkRes (mk g)) :: l) ((t, rdO bs q) :: m) n) :
    AL P ops cx Q (⟨some d, .call { callee := .value (.func f), args := xs.toArray, argTypes := ats }, ty, pos, af, none⟩ :: rest) l m n :=
  al_call_m [t] hc (by simp [nodupB, ht]) ⟨hm, trivial⟩ ha hd fun rs all _ ⟨g, q, h1, h2, h3, h4⟩ => by
    subst h1 h2
    rw [noTags_sub h3]
    exact k g q h4
end
section
variable {P : Program} {ops : Array Oper} {cx : Cx} {Q : APost} {rest : List Oper} {l : SL} {m : OL} {n d u : Nat} {x y : Operand} {ty : TypeId} {pos : String} {af : Array Edge} {T e e' wd bytes : Nat} {zs : List Value}
/-- an element of a slice of the call's own, whichever -/
theorem al_iaA [hT : SlT P T e wd bytes zs] {rows : List (List CV)} {z : Int} (hx : Ag (lk .dead l) x (.own u)) (hy : Ag (lk .dead l) y (.i z)) (ho : lk .gone m u = .row wd e' rows) (hz : 0 ≤ z ∧ z < rows.length) (hd : Nat.blt d cx.N = true)
    (k : ∀ row, row ∈ rows → rows[z.toNat]? = some row → AL P ops cx Q rest ((d, .el u wd z.toNat 0) :: l) m n) : AL P ops cx Q (⟨some d, .indexAddr T x y, ty, pos, af, none⟩ :: rest) l m n := by
  have hlt : z.toNat < rows.length := by omega
  exact al_v (opx_ia_own2 (k := z.toNat) hlt (by omega)) ⟨hx, hy, trivial⟩ ⟨ho, trivial⟩ hd (k _ (List.getElem_mem hlt) (List.getElem?_eq_getElem hlt))
theorem al_iaPA [hT : SlT P T e 2 bytes zs] {ps : List (Int × Int)} {z : Int} (hx : Ag (lk .dead l) x (.own u)) (hy : Ag (lk .dead l) y (.i z)) (ho : lk .gone m u = .row 2 e' (ptRs ps)) (hz : 0 ≤ z ∧ z < ((ptRs ps).length : Int)) (hd : Nat.blt d cx.N = true)
    (k : ∀ p, p ∈ ps → (ptRs ps)[z.toNat]? = some (ptR p) → AL P ops cx Q rest ((d, .el u 2 z.toNat 0) :: l) m n) : AL P ops cx Q (⟨some d, .indexAddr T x y, ty, pos, af, none⟩ :: rest) l m n := by
  have hl := ptRs_len (ps := ps)
  have hlt : z.toNat < ps.length := by omega
  exact al_v (opx_ia_own2 (k := z.toNat) (by omega) (by omega)) ⟨hx, hy, trivial⟩ ⟨ho, trivial⟩ hd (k _ (List.getElem_mem hlt) (ptRs_at (List.getElem?_eq_getElem hlt)))
end
section
variable {P : Program} {ops : Array Oper} {cx : Cx} {Q : APost} {rest : List Oper} {l : SL} {m : OL} {n d u : Nat} {x y : Operand} {ty : TypeId} {pos : String} {af : Array Edge} {T e e' wd bytes : Nat} {zs : List Value}
theorem al_iaIA [hT : SlT P T e 1 bytes zs] {ns : List Int} {z : Int} (hx : Ag (lk .dead l) x (.own u)) (hy : Ag (lk .dead l) y (.i z)) (ho : lk .gone m u = .row 1 e' (inRs ns)) (hz : 0 ≤ z ∧ z < ((inRs ns).length : Int)) (hd : Nat.blt d cx.N = true)
    (k : ∀ p, p ∈ ns → ns[z.toNat]? = some p → (inRs ns)[z.toNat]? = some (inR p) → AL P ops cx Q rest ((d, .el u 1 z.toNat 0) :: l) m n) : AL P ops cx Q (⟨some d, .indexAddr T x y, ty, pos, af, none⟩ :: rest) l m n := by
  have hl := inRs_len (ns := ns)
  have hlt : z.toNat < ns.length := by omega
  exact al_v (opx_ia_own2 (k := z.toNat) (by omega) (by omega)) ⟨hx, hy, trivial⟩ ⟨ho, trivial⟩ hd (k _ (List.getElem_mem hlt) (List.getElem?_eq_getElem hlt) (inRs_at (List.getElem?_eq_getElem hlt)))
end
/-- Slices of the call's own that are written no more, one object handed over. -/
theorem Con.froz1 {P : Program} {f : FuncId} {args : List AR} {o : OB} {Post Post' : List AR → List OB → Prop} (h : Con P f args [o] Post)
    (hp : ∀ rs all, Post rs all → ∃ o' rest, all = o' :: rest ∧ Post' (rs.map (fz (.gone :: rest))) [o'] ∧ ((rs.map (fz (.gone :: rest))).all fun r => r.tags.isEmpty) = true ∧ o'.tags = [] ∧ ¬ isRow o') : Con P f args [o] Post' :=
  ⟨h.ok, fun w ρ Z vs he => (h.run w ρ Z vs he).mono fun e w' ⟨rs, all, us, ρ', Z', h1, h2, h3, h4⟩ => by
    obtain ⟨o', rest, rfl, hp1, hp2, hp3, hp4⟩ := hp rs all h1
    have hat : ∀ i, obAt (.gone :: rest) (i + 1) = obAt (o' :: rest) (i + 1) := fun i => rfl
    have hrow : ∀ i, isRow (obAt (.gone :: rest) i) → obAt (.gone :: rest) i = obAt (o' :: rest) i ∧ 0 < i := fun i hi => by
      cases i with
      | zero => exact hi.elim
      | succ i => exact ⟨rfl, Nat.succ_pos _⟩
    have hlive : ∀ i, isRow (obAt (.gone :: rest) i) → (obAt (o' :: rest) i).live = true := fun i hi => by
      rw [← (hrow i hi).1]
      revert hi
      cases obAt (.gone :: rest) i <;> intro hi <;> first | rfl | exact hi.elim
    have hobj : ∀ i, DO ρ' Z' w' i (obAt (.gone :: rest) i) := fun i => by
      cases i with
      | zero => trivial
      | succ i => exact h4.objs (i + 1)
    refine ⟨rs.map (fz (.gone :: rest)), [o'], us, ρ', fun g => Z' g ∨ ∃ i, isRow (obAt (.gone :: rest) i) ∧ blk (ρ' i) = some g, hp1, Nat.le_refl _, h3, ?_⟩
    refine ⟨fz_drl hobj (fun _ h => .inl h) (fun i g hi hg => .inr ⟨i, hi, hg⟩) h4.res, fun i => ?_, fun i hi => h4.same i hi, fun i j g hi hj h5 h6 => ?_, fun i g hi h5 => ?_, fun g hg => .inl (h4.zmono g hg), fun g hg => ?_, fun g hg => ?_, ⟨?_, ?_⟩, h4.os, h4.tape, h4.output, h4.size, h4.old⟩
    · cases i with
      | zero => exact DO.mono (fun _ h => .inl h) (Same.refl _ _) rfl (fun _ _ => rfl) (fun _ _ _ => rfl) (h4.objs 0)
      | succ i => simp [obAt]; trivial
    · cases i with
      | succ i => simp [obAt, OB.live] at hi
      | zero => cases j with
        | succ j => simp [obAt, OB.live] at hj
        | zero => rfl
    · cases i with
      | succ i => simp [obAt, OB.live] at hi
      | zero =>
        obtain ⟨h6, h7⟩ := h4.out 0 g hi h5
        refine ⟨fun hz => ?_, h7⟩
        rcases hz with hz | ⟨j, hj, h8⟩
        · exact h6 hz
        · have := h4.sep 0 j g hi (hlive j hj) h5 h8
          have := (hrow j hj).2
          omega
    · rcases hg with hg | ⟨i, hi, hg⟩
      · exact h4.znew g hg
      · exact .inr (h4.out i g (hlive i hi) hg).2
    · rcases hg with hg | ⟨i, hi, hg⟩
      · exact h4.zlt g hg
      · have := hobj i
        revert hi this
        cases obAt (.gone :: rest) i <;> intro hi this <;> first | exact hi.elim | exact DO.rowlt this hg
    · rw [List.all_eq_true] at hp2 ⊢
      intro r hr
      have := hp2 r hr
      rw [List.isEmpty_iff] at this
      rw [this]; rfl
    · simp [OB.okTags, hp3]⟩
section
variable {P : Program} {Post : List AR → List OB → Prop} {e : Exit} {l : SL} {m : OL} {n t t2 t3 u : Nat}
/-- a struct as the result, one object was handed over -/
theorem retm_cell {ty : TypeId} {el : TypeId} {cells : List A1} {ob : OB} (he : isEnd e) (h : lk .dead l t = .ref u 0) (hb : lk .gone m u = .box el cells) (hs : strTy P ty = some cells.length) (hsub : AR.sub (perm [0]) (.agg cells) = .agg cells) (ho : lk .gone m 0 = ob.sub (perm [0])) (ht : resTags [.agg cells] [ob] = true)
    (hp : Post [.agg cells] [ob]) : RetG P [.cell t ty] 1 Post e l m n :=
  retg_mk he [.agg cells] [ob] [0] hp (Nat.le_refl _) rfl rfl rfl ht ⟨⟨u, el, cells, h, hb, .inl ⟨hs, hsub⟩⟩, trivial⟩ ⟨ho, trivial⟩
/-- a slice of the call's own and a struct -/
theorem ret_row_cell {wd : Nat} {el el2 ty : TypeId} {rows : List (List CV)} {cells : List A1} {u2 : Nat} (he : isEnd e) (h : lk .dead l t = .own u) (hr : lk .gone m u = .row wd el rows) (h2 : lk .dead l t2 = .ref u2 0) (hb : lk .gone m u2 = .box el2 cells) (hs : strTy P ty = some cells.length)
    (hsub : AR.sub (perm [u]) (.agg cells) = .agg cells) (ht : resTags [.one (.own 0), .agg cells] [.row wd el rows] = true) (hp : Post [.one (.own 0), .agg cells] [.row wd el rows]) : RetG P [.tmp t, .cell t2 ty] 0 Post e l m n :=
  retg_mk he [.one (.own 0), .agg cells] [.row wd el rows] [u] hp (Nat.zero_le _) rfl rfl rfl ht ⟨h, ⟨u2, el2, cells, h2, hb, .inl ⟨hs, hsub⟩⟩, trivial⟩ ⟨hr, trivial⟩
end
end Go.Proofs.YtllgddednlfhfaaDoor
