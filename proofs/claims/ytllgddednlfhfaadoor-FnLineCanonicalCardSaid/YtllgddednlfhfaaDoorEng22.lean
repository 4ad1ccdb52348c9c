/-
  Calls that write two slices of the caller's own.
-/
import Derived.Test.YtllgddednlfhfaaDoorEng21
import Derived.Test.YtllgddednlfhfaaDoorEng16
namespace Go.Proofs.YtllgddednlfhfaaDoor
open Go.RowKit
set_option linter.unusedVariables false
set_option linter.unusedSimpArgs false
section
variable {P : Program} {ops : Array Oper} {cx : Cx} {Q : APost} {rest : List Oper} {l : SL} {m : OL} {n : Nat}
variable {d : Nat} {ty : TypeId} {pos : String} {af : Array Edge} {f : FuncId} {xs : List Operand} {ats : Array TypeId} {args : List AR}
/-- A call that writes two slices of the caller's own. -/
theorem al_mark2 {wd wd2 : Nat} {e e2 : TypeId} {rows rows' rows2 rows2' : List (List CV)} {r : Value} (t u : Nat) (hm : lk .gone m t = .row wd e rows) (hm2 : lk .gone m u = .row wd2 e2 rows2) (ht : Nat.blt t n = true) (hu : Nat.blt u n = true) (hne : Nat.beq t u = false)
    (ha : Args (lk .dead l) (lk .gone m) (cpi [t, u] n) false xs args) (hd : Nat.blt d cx.N = true)
    (hc : Con P f args [.row wd e rows, .row wd2 e2 rows2] (fun rs all => rs = [.one (.c (.raw r))] ∧ all = [.row wd e rows', .row wd2 e2 rows2'])) (k : AL P ops cx Q rest ((d, .raw r) :: l) ((t, .row wd e rows') :: (u, .row wd2 e2 rows2') :: m) n) :
    AL P ops cx Q (⟨some d, .call { callee := .value (.func f), args := xs.toArray, argTypes := ats }, ty, pos, af, none⟩ :: rest) l m n :=
  al_call_m [t, u] hc (by simp [nodupB, ht, hu, hne]) ⟨hm, hm2, trivial⟩ ha hd fun rs all _ ⟨h1, h2⟩ => by
    subst h1 h2
    exact k
end
section
variable {P : Program} {Post : List AR → List OB → Prop} {e : Exit} {l : SL} {m : OL} {n t : Nat}
/-- two objects were handed over -/
theorem retm2_raw {v : Value} {wd wd2 : Nat} {e1 e2 : TypeId} {rows rows2 : List (List CV)} (he : isEnd e) (h : lk .dead l t = .raw v) (h1 : lk .gone m 0 = .row wd e1 rows) (h2 : lk .gone m 1 = .row wd2 e2 rows2)
    (hp : Post [.one (.c (.raw v))] [.row wd e1 rows, .row wd2 e2 rows2]) : RetG P [.tmp t] 2 Post e l m n :=
  retg_mk he [_] [_, _] [0, 1] hp (Nat.le_refl _) rfl rfl rfl rfl ⟨h, trivial⟩ ⟨h1, h2, trivial⟩
end
/-! ### own slices in structs, as values -/
def fzC (all : List OB) : A1 → A1
  | .own t => match obAt all t with
    | .row wd _ rows => .c (.sl wd rows)
    | _ => .own t
  | x => x
def fzA (all : List OB) : AR → AR
  | .one x => .one (fzC all x)
  | .agg xs => .agg (xs.map (fzC all))
theorem fzC_d1 {ρ : Nat → Value} {Z Zc : Nat → Prop} {w : World} {all : List OB} (ho : ∀ i, DO ρ Z w i (obAt all i)) (hZ : ∀ g, Z g → Zc g) (hR : ∀ i g, isRow (obAt all i) → blk (ρ i) = some g → Zc g)
    {r : A1} {v : Value} (h : D1 ρ Z w r v) : D1 ρ Zc w (fzC all r) v := by
  have hdef : D1 ρ Zc w r v := DR.mono (x := .one r) hZ (Same.refl _ _) (fun _ _ => rfl) h
  unfold fzC
  split
  · rename_i t
    split
    · rename_i wd e rows he
      have h1 := ho t
      rw [he] at h1
      have h2 : v = ρ t := h.1
      show DC Zc w _ v
      rw [h2]
      exact h1.rowdc hZ fun g hg => hR t g (by rw [he]; trivial) hg
    · exact hdef
  · exact hdef
theorem fzC_d1l {ρ : Nat → Value} {Z Zc : Nat → Prop} {w : World} {all : List OB} (ho : ∀ i, DO ρ Z w i (obAt all i)) (hZ : ∀ g, Z g → Zc g) (hR : ∀ i g, isRow (obAt all i) → blk (ρ i) = some g → Zc g) :
    ∀ {rs : List A1} {us : List Value}, D1L ρ Z w rs us → D1L ρ Zc w (rs.map (fzC all)) us
  | [], [], _ => trivial
  | [], _ :: _, h => h.elim
  | _ :: _, [], h => h.elim
  | _ :: _, _ :: _, h => ⟨fzC_d1 ho hZ hR h.1, fzC_d1l ho hZ hR h.2⟩
theorem fzA_drl {ρ : Nat → Value} {Z Zc : Nat → Prop} {w : World} {all : List OB} (ho : ∀ i, DO ρ Z w i (obAt all i)) (hZ : ∀ g, Z g → Zc g) (hR : ∀ i g, isRow (obAt all i) → blk (ρ i) = some g → Zc g) :
    ∀ {rs : List AR} {us : List Value}, DRL ρ Z w rs us → DRL ρ Zc w (rs.map (fzA all)) us
  | [], [], _ => trivial
  | [], _ :: _, h => h.elim
  | _ :: _, [], h => h.elim
  | .one _ :: _, _ :: _, h => ⟨fzC_d1 ho hZ hR h.1, fzA_drl ho hZ hR h.2⟩
  | .agg _ :: _, _ :: _, h => ⟨by obtain ⟨us, h1, h2⟩ := h.1; exact ⟨us, h1, fzC_d1l ho hZ hR h2⟩, fzA_drl ho hZ hR h.2⟩
theorem Con.frozA {P : Program} {f : FuncId} {args : List AR} {Post Post' : List AR → List OB → Prop} (h : Con P f args [] Post)
    (hp : ∀ rs all, Post rs all → Post' (rs.map (fzA all)) [] ∧ ((rs.map (fzA all)).all fun r => r.tags.isEmpty) = true) : Con P f args [] Post' :=
  ⟨h.ok, fun w ρ Z vs he => (h.run w ρ Z vs he).mono fun e w' ⟨rs, all, us, ρ', Z', h1, h2, h3, h4⟩ => by
    obtain ⟨hp1, hp2⟩ := hp rs all h1
    refine ⟨rs.map (fzA all), [], us, ρ', fun g => Z' g ∨ ∃ i, isRow (obAt all i) ∧ blk (ρ' i) = some g, hp1, Nat.le_refl _, h3, ?_⟩
    have hlive : ∀ i, isRow (obAt all i) → (obAt all i).live = true := fun i hi => by
      revert hi
      cases obAt all i <;> intro hi <;> first | rfl | exact hi.elim
    refine ⟨fzA_drl h4.objs (fun _ h => .inl h) (fun i g hi hg => .inr ⟨i, hi, hg⟩) h4.res, fun i => trivial, fun i hi => absurd hi (Nat.not_lt_zero _), fun i j g hi => (by cases hi), fun i g hi => (by cases hi), fun g hg => .inl (h4.zmono g hg), fun g hg => ?_, fun g hg => ?_, ⟨?_, rfl⟩, h4.os, h4.tape, h4.output, h4.size, h4.old⟩
    · rcases hg with hg | ⟨i, hi, hg⟩
      · exact h4.znew g hg
      · exact .inr (h4.out i g (hlive i hi) hg).2
    · rcases hg with hg | ⟨i, hi, hg⟩
      · exact h4.zlt g hg
      · have := h4.objs i
        revert hi this
        cases hob : obAt all i <;> intro hi this <;> first | exact hi.elim | exact this.rowlt hg
    · rw [List.all_eq_true] at hp2 ⊢
      intro r hr
      have := hp2 r hr
      rw [List.isEmpty_iff] at this
      rw [this]; rfl⟩
end Go.Proofs.YtllgddednlfhfaaDoor
