/-
  Contracts whose own slices are written no more.
-/
import Derived.Test.YtllgddednlfhfaaDoorEng13
namespace Go.Proofs.YtllgddednlfhfaaDoor
open Go.RowKit
set_option linter.unusedVariables false
set_option linter.unusedSimpArgs false

theorem DO.rowdc {ρ : Nat → Value} {Z Zc : Nat → Prop} {w : World} {t wd : Nat} {e : TypeId} {rows : List (List CV)} (ho : DO ρ Z w t (.row wd e rows)) (hZ : ∀ g, Z g → Zc g) (hR : ∀ g, blk (ρ t) = some g → Zc g) : DC Zc w (.sl wd rows) (ρ t) := by
  obtain ⟨h1, us, h2, h3⟩ := do_row.1 ho
  rcases h3 with ⟨h4, h5, rfl⟩ | ⟨g, off, cap, cur, h4, h5, h6, h7, h8, h9, h10⟩
  · have : rows = [] := List.eq_nil_of_length_eq_zero h5
    subst this
    rw [h4]; exact .nil wd none 0 (Nat.zero_le _)
  · have h2' : DL Zc w rows.flatten us := h2.mono hZ (Same.refl _ _)
    have hzg : Zc g := hR g (by rw [h4]; rfl)
    rw [h4]
    refine .sl wd rows g off _ cap us rfl h1 hzg h6 h7 h2'.len (fun k u hu => ?_) (fun k hk hk' => h2'.at k hk hk')
    rw [World.cell?, h5]
    simpa using h10 k u hu

theorem DO.rowlt {ρ : Nat → Value} {Z : Nat → Prop} {w : World} {t wd g : Nat} {e : TypeId} {rows : List (List CV)} (ho : DO ρ Z w t (.row wd e rows)) (hb : blk (ρ t) = some g) : g < w.heap.size := by
  obtain ⟨h1, us, h2, h3⟩ := do_row.1 ho
  rcases h3 with ⟨h4, h5, rfl⟩ | ⟨g', off, cap, cur, h4, h5, h6, h7, h8, h9, h10⟩
  · rw [h4] at hb; cases hb
  · rw [h4] at hb
    cases hb
    rcases Nat.lt_or_ge g' w.heap.size with h | h
    · exact h
    · rw [Array.getElem?_eq_none h] at h5; cases h5

/-- An own slice as a value. -/
def fz (all : List OB) : AR → AR
  | .one (.own t) => match obAt all t with
    | .row wd _ rows => .one (.c (.sl wd rows))
    | _ => .one (.own t)
  | r => r
def isRow : OB → Prop
  | .row _ _ _ => True
  | _ => False

theorem fz_dr {ρ : Nat → Value} {Z Zc : Nat → Prop} {w : World} {all : List OB} (ho : ∀ i, DO ρ Z w i (obAt all i)) (hZ : ∀ g, Z g → Zc g) (hR : ∀ i g, isRow (obAt all i) → blk (ρ i) = some g → Zc g)
    {r : AR} {v : Value} (h : DR ρ Z w r v) : DR ρ Zc w (fz all r) v := by
  have hdef : DR ρ Zc w r v := DR.mono hZ (Same.refl _ _) (fun _ _ => rfl) h
  unfold fz
  split
  · rename_i t
    split
    · rename_i wd e rows he
      have h1 := ho t
      rw [he] at h1
      have h2 : v = ρ t := h.1
      show DC Zc w _ v
      rw [h2]
      exact h1.rowdc hZ fun g hg => hR t g (by rw [he]; trivial) hg
    · exact hdef
  · exact hdef
theorem fz_drl {ρ : Nat → Value} {Z Zc : Nat → Prop} {w : World} {all : List OB} (ho : ∀ i, DO ρ Z w i (obAt all i)) (hZ : ∀ g, Z g → Zc g) (hR : ∀ i g, isRow (obAt all i) → blk (ρ i) = some g → Zc g) :
    ∀ {rs : List AR} {us : List Value}, DRL ρ Z w rs us → DRL ρ Zc w (rs.map (fz all)) us
  | [], [], _ => trivial
  | [], _ :: _, h => h.elim
  | _ :: _, [], h => h.elim
  | _ :: _, _ :: _, h => ⟨fz_dr ho hZ hR h.1, fz_drl ho hZ hR h.2⟩

theorem Con.froz {P : Program} {f : FuncId} {args : List AR} {Post Post' : List AR → List OB → Prop} (h : Con P f args [] Post)
    (hp : ∀ rs all, Post rs all → Post' (rs.map (fz all)) [] ∧ ((rs.map (fz all)).all fun r => r.tags.isEmpty) = true) : Con P f args [] Post' :=
  ⟨h.ok, fun w ρ Z vs he => (h.run w ρ Z vs he).mono fun e w' ⟨rs, all, us, ρ', Z', h1, h2, h3, h4⟩ => by
    obtain ⟨hp1, hp2⟩ := hp rs all h1
    refine ⟨rs.map (fz all), [], us, ρ', fun g => Z' g ∨ ∃ i, isRow (obAt all i) ∧ blk (ρ' i) = some g, hp1, Nat.le_refl _, h3, ?_⟩
    have hlive : ∀ i, isRow (obAt all i) → (obAt all i).live = true := fun i hi => by
      revert hi
      cases obAt all i <;> intro hi <;> first | rfl | exact hi.elim
    refine ⟨fz_drl h4.objs (fun _ h => .inl h) (fun i g hi hg => .inr ⟨i, hi, hg⟩) h4.res, fun i => trivial, fun i hi => absurd hi (Nat.not_lt_zero _), fun i j g hi => (by cases hi), fun i g hi => (by cases hi), fun g hg => .inl (h4.zmono g hg), fun g hg => ?_, fun g hg => ?_, ⟨?_, rfl⟩, h4.os, h4.tape, h4.output, h4.size, h4.old⟩
    · rcases hg with hg | ⟨i, hi, hg⟩
      · exact h4.znew g hg
      · exact .inr (h4.out i g (hlive i hi) hg).2
    · rcases hg with hg | ⟨i, hi, hg⟩
      · exact h4.zlt g hg
      · have := h4.objs i
        revert hi this
        cases hob : obAt all i <;> intro hi this <;> first | exact hi.elim | exact this.rowlt hg
    · rw [List.all_eq_true] at hp2 ⊢
      intro r hr
      have := hp2 r hr
      rw [List.isEmpty_iff] at this
      rw [this]; rfl⟩

section
variable {P : Program} {ops : Array Oper} {cx : Cx} {Q : APost} {rest : List Oper} {l : SL} {m : OL} {n d : Nat} {ty : TypeId} {pos : String} {af : Array Edge} {f : FuncId} {xs : List Operand} {ats : Array TypeId} {args rs0 : List AR}
def noTags (rs : List AR) : Bool := rs.all fun r => r.tags.isEmpty
theorem noTags_sub {rs : List AR} (h : noTags rs = true) (f : Nat → Nat) : rs.map (·.sub f) = rs := by
  induction rs with
  | nil => rfl
  | cons r rs ih =>
    simp only [noTags, List.all_cons, Bool.and_eq_true] at h
    rw [List.map_cons, ih h.2]
    have h1 := h.1
    rw [List.isEmpty_iff] at h1
    congr 1
    cases r with
    | one x => cases x with
      | fn g r caps => cases r with
        | none => rfl
        | some p => simp [AR.tags, A1.tag] at h1
      | _ => first | rfl | (simp [AR.tags, A1.tag] at h1)
    | agg xs =>
      simp only [AR.tags, List.flatMap_eq_nil_iff] at h1
      simp only [AR.sub, AR.agg.injEq]
      refine (List.map_congr_left fun x hx => ?_).trans (List.map_id _)
      have := h1 x hx
      cases x with
      | fn g r caps => cases r with
        | none => rfl
        | some p => simp [A1.tag] at this
      | _ => first | rfl | (simp [A1.tag] at this)
/-- a call that hands out no object -/
theorem al_callE {γ : Type} {rs : γ → List AR} {Φ : γ → Prop} (ha : Args (lk .dead l) (lk .gone m) (cpi [] n) false xs args) (hd : Nat.blt d cx.N = true) (hc : Con P f args [] (fun r all => ∃ g, r = rs g ∧ all = [] ∧ noTags r = true ∧ Φ g))
    (k : ∀ g, Φ g → AL P ops cx Q rest ((d, mkRes (rs g)) :: l) m n) :
    AL P ops cx Q (⟨some d, .call { callee := .value (.func f), args := xs.toArray, argTypes := ats }, ty, pos, af, none⟩ :: rest) l m n :=
  al_call hc ha hd fun r all ⟨g, h1, h2, h3, h4⟩ => by
    subst h1 h2
    rw [noTags_sub h3]
    exact k g h4
theorem al_callF {rs : List AR} (ha : Args (lk .dead l) (lk .gone m) (cpi [] n) false xs args) (hd : Nat.blt d cx.N = true) (hc : Con P f args [] (fun r all => r = rs ∧ all = [])) (ht : noTags rs = true)
    (k : AL P ops cx Q rest ((d, mkRes rs) :: l) m n) :
    AL P ops cx Q (⟨some d, .call { callee := .value (.func f), args := xs.toArray, argTypes := ats }, ty, pos, af, none⟩ :: rest) l m n :=
  al_call hc ha hd fun r all ⟨h1, h2⟩ => by
    subst h1 h2
    rw [noTags_sub ht]
    exact k
end
section
variable {P : Program} {vars : List ResultVar} {Post : List AR → List OB → Prop} {e : Exit} {l : SL} {m : OL} {n t u : Nat}
theorem ret_ref {ob : OB} (he : isEnd e) (h : lk .dead l t = .ref u 0) (ho : lk .gone m u = ob.sub (perm [u])) (ht : resTags [.one (.ref 0 0)] [ob] = true) (hp : Post [.one (.ref 0 0)] [ob]) : RetG P [.tmp t] 0 Post e l m n :=
  retg_mk he [_] [_] [u] hp (Nat.zero_le _) (by simp [nodupB]) rfl rfl ht ⟨h, trivial⟩ ⟨ho, trivial⟩
theorem ret_row2_raw {u2 t2 t3 wd wd2 : Nat} {el el2 : TypeId} {rows rows2 : List (List CV)} {v : Value} (he : isEnd e) (h : lk .dead l t = .own u) (ho : lk .gone m u = .row wd el rows) (h2 : lk .dead l t2 = .own u2) (ho2 : lk .gone m u2 = .row wd2 el2 rows2) (hne : Nat.beq u u2 = false) (h3 : lk .dead l t3 = .raw v)
    (hp : Post [.one (.own 0), .one (.own 1), .one (.c (.raw v))] [.row wd el rows, .row wd2 el2 rows2]) : RetG P [.tmp t, .tmp t2, .tmp t3] 0 Post e l m n :=
  retg_mk he [_, _, _] [_, _] [u, u2] hp (Nat.zero_le _) (by simp [nodupB, hne]) rfl rfl rfl ⟨h, h2, h3, trivial⟩ ⟨ho, ho2, trivial⟩
theorem ret_row2 {u2 t2 wd wd2 : Nat} {el el2 : TypeId} {rows rows2 : List (List CV)} (he : isEnd e) (h : lk .dead l t = .own u) (ho : lk .gone m u = .row wd el rows) (h2 : lk .dead l t2 = .own u2) (ho2 : lk .gone m u2 = .row wd2 el2 rows2) (hne : Nat.beq u u2 = false)
    (hp : Post [.one (.own 0), .one (.own 1)] [.row wd el rows, .row wd2 el2 rows2]) : RetG P [.tmp t, .tmp t2] 0 Post e l m n :=
  retg_mk he [_, _] [_, _] [u, u2] hp (Nat.zero_le _) (by simp [nodupB, hne]) rfl rfl rfl ⟨h, h2, trivial⟩ ⟨ho, ho2, trivial⟩
end
end Go.Proofs.YtllgddednlfhfaaDoor
