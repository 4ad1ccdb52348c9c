/-
  The rules: regions in the text's order, tests, blocks, loops, views.
-/
import Derived.Test.YtllgddednlfhfaaDoorEng8
namespace Go.Proofs.YtllgddednlfhfaaDoor
open Go.RowKit
set_option linter.unusedVariables false
set_option linter.unusedSimpArgs false

theorem lk_cons {α : Type} (d : α) (k : Nat) (x : α) (l : List (Nat × α)) : lk d ((k, x) :: l) = lkf (lk d l) [(k, x)] := rfl

abbrev SL := List (Nat × AV)
abbrev OL := List (Nat × OB)

def St (cx : Cx) (l : SL) (m : OL) (n : Nat) (a : Act) (w : World) : Prop := Inv cx (lk .dead l) (lk .gone m) (fun t => n ≤ t) a w

abbrev APost := Exit → SL → OL → Nat → Prop
def conc (cx : Cx) (Q : APost) : Exit → Act → World → Prop := fun e a w => ∃ l m n, Q e l m n ∧ St cx l m n a w

def AL (P : Program) (ops : Array Oper) (cx : Cx) (Q : APost) (todo : List Oper) (l : SL) (m : OL) (n : Nat) : Prop := ∀ a w, St cx l m n a w → wpList P ops (conc cx Q) todo a w
def AW (P : Program) (cx : Cx) (c : Code) (Q : APost) (l : SL) (m : OL) (n : Nat) : Prop := ∀ a w, St cx l m n a w → c.wp P (conc cx Q) a w

section
variable {P : Program} {ops : Array Oper} {cx : Cx} {Q : APost} {rest : List Oper} {l : SL} {m : OL} {n : Nat}

theorem al_nil (h : Q .normal l m n) : AL P ops cx Q [] l m n := fun a w hs => ⟨l, m, n, h, hs⟩

theorem al_x {dst : Option Tmp} {op : Op} {ty : TypeId} {pos : String} {af : Array Edge} {R : List (Operand × AV)} {RO : OL} {NT : List Nat} {U : SL} {UO : OL} (hx : OpX P ⟨dst, op, ty, pos, af, none⟩ R RO NT U UO)
    (hR : AgL (lk .dead l) R) (hO : OgL (lk .gone m) RO) (hV : VgL (fun t => n ≤ t) NT) (hU : UgL cx.N U) {n' : Nat} (hn : ∀ t, n' ≤ t → n ≤ t ∧ t ∉ NT)
    (k : AL P ops cx Q rest (U ++ l) (UO ++ m) n') : AL P ops cx Q (⟨dst, op, ty, pos, af, none⟩ :: rest) l m n := by
  intro a w hs
  refine wpList_plain rfl fun K hK => hx cx _ _ _ a w hR hO hV hU hs K _ fun a' w' hi => hK _ _ (k a' w' ?_)
  unfold St
  rw [← lkf_lk, ← lkf_lk]
  obtain ⟨ρ, Z, hg⟩ := hi
  exact ⟨ρ, Z, hg.weak hn⟩

variable {dst : Option Tmp} {op : Op} {ty : TypeId} {pos : String} {af : Array Edge} {R : List (Operand × AV)} {RO : OL}

/-- a value into a slot -/
theorem al_v {d : Nat} {x : AV} (hx : OpX P ⟨some d, op, ty, pos, af, none⟩ R RO [] [(d, x)] []) (hR : AgL (lk .dead l) R) (hO : OgL (lk .gone m) RO) (hd : Nat.blt d cx.N = true)
    (k : AL P ops cx Q rest ((d, x) :: l) m n) : AL P ops cx Q (⟨some d, op, ty, pos, af, none⟩ :: rest) l m n :=
  al_x hx hR hO trivial ⟨hd, trivial⟩ (fun t ht => ⟨ht, by simp⟩) k
/-- a new object -/
theorem al_n {d : Nat} {x : AV} {UO : OL} (hx : OpX P ⟨some d, op, ty, pos, af, none⟩ R RO [n] [(d, x)] UO) (hR : AgL (lk .dead l) R) (hO : OgL (lk .gone m) RO) (hd : Nat.blt d cx.N = true)
    (k : AL P ops cx Q rest ((d, x) :: l) (UO ++ m) (n + 1)) : AL P ops cx Q (⟨some d, op, ty, pos, af, none⟩ :: rest) l m n :=
  al_x hx hR hO ⟨Nat.le_refl _, trivial⟩ ⟨hd, trivial⟩ (fun t ht => ⟨by omega, by simp; omega⟩) k
/-- a store -/
theorem al_s {UO : OL} (hx : OpX P ⟨none, op, ty, pos, af, none⟩ R RO [] [] UO) (hR : AgL (lk .dead l) R) (hO : OgL (lk .gone m) RO)
    (k : AL P ops cx Q rest l (UO ++ m) n) : AL P ops cx Q (⟨none, op, ty, pos, af, none⟩ :: rest) l m n :=
  al_x hx hR hO trivial trivial (fun t ht => ⟨ht, by simp⟩) k

theorem yielded_eq {l : SL} {m : OL} {n : Nat} {a : Act} {w : World} (hs : St cx l m n a w) {j dj : Nat} {b : Bool} (hj : (ops[j]?).bind (·.dst) = some dj) (hd : Nat.blt dj cx.N = true) (hb : lk .dead l dj = .b b) :
    yielded ops a.tmps j = some b := by
  obtain ⟨ρ, Z, hg⟩ := hs
  have h1 := hg.slot dj
  rw [hb] at h1
  have h2 := da_raw h1
  have hlt : dj < a.tmps.size := by rw [hg.size]; exact blt_lt hd
  have h3 : a.tmps[dj]? = some (.bool b) := by
    rw [Array.getElem?_eq_getElem hlt]
    simp only [Array.getD, hlt, dite_true] at h2
    exact congrArg some h2
  simp [yielded, hj, h3]

/-- a guarded operation that is carried out -/
theorem al_on {j dj : Nat} {want b : Bool} (hj : (ops[j]?).bind (·.dst) = some dj) (hd : Nat.blt dj cx.N = true) (hb : lk .dead l dj = .b b) (hw : b = want)
    (k : AL P ops cx Q (⟨dst, op, ty, pos, af, none⟩ :: rest) l m n) : AL P ops cx Q (⟨dst, op, ty, pos, af, some (j, want)⟩ :: rest) l m n := by
  intro a w hs
  have hk := k a w hs
  have hy := yielded_eq hs hj hd hb
  subst hw
  have h1 : Region.wanted (⟨dst, op, ty, pos, af, some (j, b)⟩ : Oper) (yielded ops a.tmps) = true := by simp [Region.wanted, hy]
  have h2 : Region.wanted (⟨dst, op, ty, pos, af, none⟩ : Oper) (yielded ops a.tmps) = true := by simp [Region.wanted]
  unfold wpList at hk ⊢
  rw [if_pos h2] at hk
  rw [if_pos h1]
  exact hk
/-- a guarded operation that is passed over -/
theorem al_off {j dj d : Nat} {want b : Bool} (hj : (ops[j]?).bind (·.dst) = some dj) (hd : Nat.blt dj cx.N = true) (hb : lk .dead l dj = .b b) (hw : b = !want) (hd2 : Nat.blt d cx.N = true)
    (k : AL P ops cx Q rest ((d, .tup []) :: l) m n) : AL P ops cx Q (⟨some d, op, ty, pos, af, some (j, want)⟩ :: rest) l m n := by
  intro a w hs
  have hy := yielded_eq hs hj hd hb
  subst hw
  have h1 : Region.wanted (⟨some d, op, ty, pos, af, some (j, want)⟩ : Oper) (yielded ops a.tmps) = false := by cases want <;> simp [Region.wanted, hy]
  unfold wpList
  rw [if_neg (by rw [h1]; simp)]
  refine k _ w ?_
  obtain ⟨ρ, Z, hg⟩ := hs
  have := hg.put (x := .tup []) (v := undef) (blt_lt hd2) ⟨[], rfl, trivial⟩ (by simp [AV.tags])
  unfold St
  rw [show lk AV.dead ((d, .tup []) :: l) = lkf (lk .dead l) [(d, .tup [])] from lk_cons _ _ _ _]
  exact ⟨ρ, Z, this⟩
theorem yielded_none {S : Nat → AV} {O : Nat → OB} {V : Nat → Prop} {a : Act} {w : World} (hs : Inv cx S O V a w) {ops : Array Oper} {j dj : Nat} (hj : (ops[j]?).bind (·.dst) = some dj) (hb : S dj = .tup []) :
    yielded ops a.tmps j = none := by
  obtain ⟨ρ, Z, hg⟩ := hs
  have h1 := hg.slot dj
  rw [hb] at h1
  obtain ⟨us, h2, h3⟩ := h1
  have h4 : us = [] := by
    cases us with
    | nil => rfl
    | cons u us => exact h3.elim
  subst h4
  unfold yielded
  rw [hj]
  show (match a.tmps[dj]? with | some (.bool b) => some b | _ => none) = none
  rcases Nat.lt_or_ge dj a.tmps.size with hlt | hge
  · rw [Array.getElem?_eq_getElem hlt]
    simp only [Array.getD, hlt, dite_true] at h2
    rw [show a.tmps[dj] = _ from h2]
  · rw [Array.getElem?_eq_none hge]
/-- a guard that was passed over itself -/
theorem al_off2 {j dj d : Nat} {want : Bool} (hj : (ops[j]?).bind (·.dst) = some dj) (hb : lk .dead l dj = .tup []) (hd2 : Nat.blt d cx.N = true)
    (k : AL P ops cx Q rest ((d, .tup []) :: l) m n) : AL P ops cx Q (⟨some d, op, ty, pos, af, some (j, want)⟩ :: rest) l m n := by
  intro a w hs
  have hy := yielded_none hs hj hb
  have h1 : Region.wanted (⟨some d, op, ty, pos, af, some (j, want)⟩ : Oper) (yielded ops a.tmps) = false := by simp [Region.wanted, hy]
  unfold wpList
  rw [if_neg (by rw [h1]; simp)]
  refine k _ w ?_
  obtain ⟨ρ, Z, hg⟩ := hs
  have := hg.put (x := .tup []) (v := undef) (blt_lt hd2) ⟨[], rfl, trivial⟩ (by simp [AV.tags])
  unfold St
  rw [show lk AV.dead ((d, .tup []) :: l) = lkf (lk .dead l) [(d, .tup [])] from lk_cons _ _ _ _]
  exact ⟨ρ, Z, this⟩
/-- both ways -/
theorem al_g {j dj d : Nat} {want b : Bool} (hj : (ops[j]?).bind (·.dst) = some dj) (hd : Nat.blt dj cx.N = true) (hb : lk .dead l dj = .b b) (hd2 : Nat.blt d cx.N = true)
    (h1 : b = want → AL P ops cx Q (⟨some d, op, ty, pos, af, none⟩ :: rest) l m n) (h0 : b = (!want) → AL P ops cx Q rest ((d, .tup []) :: l) m n) :
    AL P ops cx Q (⟨some d, op, ty, pos, af, some (j, want)⟩ :: rest) l m n := by
  by_cases h : b = want
  · exact al_on hj hd hb h (h1 h)
  · have h' : b = !want := by cases b <;> cases want <;> simp_all
    exact al_off hj hd hb h' hd2 (h0 h')

/-! ### code -/
theorem aw_mono {c : Code} {Q' : APost} (h : AW P cx c Q l m n) (hq : ∀ e l m n, Q e l m n → Q' e l m n) : AW P cx c Q' l m n :=
  fun a w hs => Code.wp_mono (fun e a w ⟨l, m, n, h1, h2⟩ => ⟨l, m, n, hq _ _ _ _ h1, h2⟩) (h a w hs)

theorem aw_skip (h : Q .normal l m n) : AW P cx .skip Q l m n := fun a w hs => wp_skip ⟨l, m, n, h, hs⟩
theorem aw_exit {id : Nat} (h : Q (.exit id) l m n) : AW P cx (.exit id) Q l m n := fun a w hs => wp_exit ⟨l, m, n, h, hs⟩
theorem aw_label {id : Nat} (h : Q .normal l m n) : AW P cx (.label id) Q l m n := fun a w hs => wp_label ⟨l, m, n, h, hs⟩
theorem aw_ret (h : Q .ret l m n) : AW P cx .ret Q l m n := fun a w hs => wp_ret ⟨l, m, n, h, hs⟩

def thn (N : SL → OL → Nat → Prop) (Q : APost) : APost
  | .normal, l, m, n => N l m n
  | e, l, m, n => Q e l m n
def inb (id : Nat) (Q : APost) : APost
  | .exit j, l, m, n => if j = id then Q .normal l m n else Q (.exit j) l m n
  | e, l, m, n => Q e l m n

theorem aw_seq {x y : Code} (h : AW P cx x (thn (fun l m n => AW P cx y Q l m n) Q) l m n) : AW P cx (.seq x y) Q l m n := by
  intro a w hs
  refine wp_seq (Code.wp_mono ?_ (h a w hs))
  rintro e a w ⟨l, m, n, h1, h2⟩
  cases e <;> first | exact h1 a w h2 | exact ⟨l, m, n, h1, h2⟩

theorem aw_block {id : Nat} {c : Code} (h : AW P cx c (inb id Q) l m n) : AW P cx (.block id c) Q l m n := by
  intro a w hs
  refine wp_block (Code.wp_mono ?_ (h a w hs))
  rintro e a w ⟨l, m, n, h1, h2⟩
  cases e with
  | exit j =>
    simp only [Exit.inBlock]
    simp only [inb] at h1
    split
    · rename_i e; rw [if_pos e] at h1; exact ⟨l, m, n, h1, h2⟩
    · rename_i e; rw [if_neg e] at h1; exact ⟨l, m, n, h1, h2⟩
  | _ => exact ⟨l, m, n, h1, h2⟩

theorem thn_n {N : SL → OL → Nat → Prop} (h : N l m n) : thn N Q .normal l m n := h
theorem thn_r {N : SL → OL → Nat → Prop} (h : Q .ret l m n) : thn N Q .ret l m n := h
theorem thn_e {N : SL → OL → Nat → Prop} {id : Nat} (h : Q (.exit id) l m n) : thn N Q (.exit id) l m n := h
theorem inb_n {id : Nat} (h : Q .normal l m n) : inb id Q .normal l m n := h
theorem inb_r {id : Nat} (h : Q .ret l m n) : inb id Q .ret l m n := h
theorem inb_hit {id : Nat} (h : Q .normal l m n) : inb id Q (.exit id) l m n := by simp only [inb, if_true]; exact h
theorem inb_miss {id j : Nat} (hj : Nat.beq j id = false) (h : Q (.exit j) l m n) : inb id Q (.exit j) l m n := by
  simp only [inb]
  rw [if_neg (fun e => by subst e; rw [beq_self] at hj; cases hj)]
  exact h

theorem eval_of {a : Act} {w : World} (hs : St cx l m n a w) {c : Operand} {b : Bool} (hc : Ag (lk .dead l) c (.b b)) : a.eval c = .bool b := by
  obtain ⟨ρ, Z, hg⟩ := hs
  exact da_raw (hg.ag hc)

theorem aw_cond {c : Operand} {x y : Code} {b : Bool} (hc : Ag (lk .dead l) c (.b b)) (h1 : b = true → AW P cx x Q l m n) (h0 : b = false → AW P cx y Q l m n) : AW P cx (.cond c x y) Q l m n := by
  intro a w hs
  exact wp_cond_split (eval_of hs hc) (fun h => h1 h a w hs) (fun h => h0 h a w hs)
theorem aw_cond_t {c : Operand} {x y : Code} {b : Bool} (hc : Ag (lk .dead l) c (.b b)) (hb : b = true) (h1 : AW P cx x Q l m n) : AW P cx (.cond c x y) Q l m n := by
  intro a w hs
  exact wp_cond_true (by rw [← hb]; exact eval_of hs hc) (h1 a w hs)
theorem aw_cond_f {c : Operand} {x y : Code} {b : Bool} (hc : Ag (lk .dead l) c (.b b)) (hb : b = false) (h0 : AW P cx y Q l m n) : AW P cx (.cond c x y) Q l m n := by
  intro a w hs
  exact wp_cond_false (by rw [← hb]; exact eval_of hs hc) (h0 a w hs)

theorem aw_region {id : Nat} {ol : List Oper} (h : AL P ol.toArray cx Q ol l m n) : AW P cx (.region id ol.toArray false) Q l m n :=
  fun a w hs => wp_region_lit (h a w hs)

/-! ### other views of a state -/
/-- Tags by other names. -/
def A1.sub (f : Nat → Nat) : A1 → A1
  | .own t => .own (f t)
  | .ref t o => .ref (f t) o
  | .el t wd i k => .el (f t) wd i k
  | .fn g r caps => .fn g (match r with | none => none | some (t, o) => some (f t, o)) caps
  | x => x
def AR.sub (f : Nat → Nat) : AR → AR
  | .one x => .one (x.sub f)
  | .agg xs => .agg (xs.map (·.sub f))
def AV.sub (f : Nat → Nat) : AV → AV
  | .r x => .r (x.sub f)
  | .tup xs => .tup (xs.map (·.sub f))
  | .dead => .dead
def OB.sub (f : Nat → Nat) : OB → OB
  | .box e cells => .box e (cells.map (·.sub f))
  | o => o

theorem D1.sub {ρ : Nat → Value} {Z : Nat → Prop} {w : World} {f : Nat → Nat} {x : A1} {v : Value} (h : D1 ρ Z w (x.sub f) v) : D1 (fun t => ρ (f t)) Z w x v := by
  cases x with
  | fn g r caps => cases r <;> exact h
  | _ => exact h
theorem D1L.sub {ρ : Nat → Value} {Z : Nat → Prop} {w : World} {f : Nat → Nat} : ∀ {xs : List A1} {us : List Value}, D1L ρ Z w (xs.map (·.sub f)) us → D1L (fun t => ρ (f t)) Z w xs us
  | [], [], _ => trivial
  | x :: xs, u :: us, h => ⟨D1.sub h.1, D1L.sub h.2⟩
  | [], _ :: _, h => h.elim
  | _ :: _, [], h => h.elim
theorem DR.sub {ρ : Nat → Value} {Z : Nat → Prop} {w : World} {f : Nat → Nat} {x : AR} {v : Value} (h : DR ρ Z w (x.sub f) v) : DR (fun t => ρ (f t)) Z w x v := by
  cases x with
  | one x => exact D1.sub (x := x) h
  | agg xs => obtain ⟨us, h1, h2⟩ := h; exact ⟨us, h1, D1L.sub h2⟩
theorem DRL.sub {ρ : Nat → Value} {Z : Nat → Prop} {w : World} {f : Nat → Nat} : ∀ {xs : List AR} {us : List Value}, DRL ρ Z w (xs.map (·.sub f)) us → DRL (fun t => ρ (f t)) Z w xs us
  | [], [], _ => trivial
  | x :: xs, u :: us, h => ⟨DR.sub (x := x) h.1, DRL.sub h.2⟩
  | [], _ :: _, h => h.elim
  | _ :: _, [], h => h.elim
theorem DA.sub {ρ : Nat → Value} {Z : Nat → Prop} {w : World} {f : Nat → Nat} {x : AV} {v : Value} (h : DA ρ Z w (x.sub f) v) : DA (fun t => ρ (f t)) Z w x v := by
  cases x with
  | r x => exact DR.sub (x := x) h
  | tup xs => obtain ⟨us, h1, h2⟩ := h; exact ⟨us, h1, DRL.sub h2⟩
  | dead => trivial
theorem DO.sub {ρ : Nat → Value} {Z : Nat → Prop} {w : World} {f : Nat → Nat} {t : Nat} {ob : OB} (h : DO ρ Z w (f t) (ob.sub f)) : DO (fun t => ρ (f t)) Z w t ob := by
  cases ob with
  | box e cells => obtain ⟨g, us, h1, h2, h3⟩ := h; exact ⟨g, us, h1, h2, D1L.sub h3⟩
  | _ => exact h

theorem A1.tag_sub (f : Nat → Nat) (x : A1) : (x.sub f).tag = x.tag.map f := by
  cases x with
  | fn g r caps => cases r <;> rfl
  | _ => rfl

/-- 'l', 'm' hold what 'l2', 'm2' say, tag t of these being tag p[t] of those. -/
def LeS (l : SL) (f : Nat → Nat) : SL → Prop
  | [] => True
  | (t, x) :: r => lk .dead l t = x.sub f ∧ LeS l f r
def LeO (m : OL) (f : Nat → Nat) : OL → Prop
  | [] => True
  | (t, x) :: r => lk .gone m (f t) = x.sub f ∧ LeO m f r

def AV.okTags (n : Nat) (x : AV) : Bool := x.tags.all (Nat.blt · n)
def OB.okTags (n : Nat) (x : OB) : Bool := x.tags.all (Nat.blt · n)

theorem les_at {l : SL} {f : Nat → Nat} : ∀ {l2 : SL}, LeS l f l2 → ∀ t, lk .dead l2 t = .dead ∨ lk .dead l t = (lk .dead l2 t).sub f
  | [], _, t => .inl rfl
  | (k, x) :: l2, h, t => by
    by_cases e : k = t
    · subst e
      right
      simp only [lk, beq_self, cond_true]
      exact h.1
    · simp only [lk, beq_ne e, cond_false]
      exact les_at h.2 t
theorem leo_at {m : OL} {f : Nat → Nat} : ∀ {m2 : OL}, LeO m f m2 → ∀ t, lk .gone m2 t = .gone ∨ lk .gone m (f t) = (lk .gone m2 t).sub f
  | [], _, t => .inl rfl
  | (k, x) :: m2, h, t => by
    by_cases e : k = t
    · subst e
      right
      simp only [lk, beq_self, cond_true]
      exact h.1
    · simp only [lk, beq_ne e, cond_false]
      exact leo_at h.2 t

def tagsOk (l2 : SL) (m2 : OL) (n2 : Nat) : Bool := l2.all (fun p => p.2.okTags n2) && m2.all (fun p => Nat.blt p.1 n2 && p.2.okTags n2)

theorem lk_all {α : Type} {d : α} {p : α → Prop} (hd : p d) : ∀ {l : List (Nat × α)}, (∀ x ∈ l, p x.2) → ∀ t, p (lk d l t)
  | [], _, t => hd
  | (k, x) :: l, h, t => by
    by_cases e : k = t
    · subst e; simp only [lk, beq_self, cond_true]; exact h (k, x) (.head _)
    · simp only [lk, beq_ne e, cond_false]; exact lk_all hd (fun y hy => h y (.tail _ hy)) t

theorem lk_out {α : Type} {d : α} {n : Nat} : ∀ {l : List (Nat × α)}, (∀ x ∈ l, x.1 < n) → ∀ t, n ≤ t → lk d l t = d
  | [], _, t, _ => rfl
  | (k, x) :: l, h, t, ht => by
    have := h (k, x) (.head _)
    simp only [lk, beq_ne (show k ≠ t by dsimp only at this; omega), cond_false]
    exact lk_out (fun y hy => h y (.tail _ hy)) t ht

/-- The state seen through fewer slots and objects, the tags named anew. -/
theorem st_le {l l2 : SL} {m m2 : OL} {n n2 : Nat} (f : Nat → Nat) (hpin : ∀ i, i < cx.m0 → f i = i) (hn2 : cx.m0 ≤ n2) (hinj : ∀ i j, i < n2 → j < n2 → f i = f j → i = j) (htags : tagsOk l2 m2 n2 = true) (hl : LeS l f l2) (hm : LeO m f m2)
    {a : Act} {w : World} (hs : St cx l m n a w) : St cx l2 m2 n2 a w := by
  obtain ⟨ρ, Z, hg⟩ := hs
  simp only [tagsOk, Bool.and_eq_true, List.all_eq_true] at htags
  obtain ⟨ht1, ht2⟩ := htags
  have hsl : ∀ t, ∀ s ∈ (lk AV.dead l2 t).tags, s < n2 := fun t => lk_all (p := fun x : AV => ∀ s ∈ x.tags, s < n2) (by simp [AV.tags]) (fun x hx s hs => by
    have := ht1 x hx
    simp only [AV.okTags, List.all_eq_true] at this
    exact blt_lt (this s hs)) t
  have hol : ∀ t, ∀ s ∈ (lk OB.gone m2 t).tags, s < n2 := fun t => lk_all (p := fun x : OB => ∀ s ∈ x.tags, s < n2) (by simp [OB.tags]) (fun x hx s hs => by
    have := (ht2 x hx).2
    simp only [OB.okTags, List.all_eq_true] at this
    exact blt_lt (this s hs)) t
  have hout : ∀ t, n2 ≤ t → lk OB.gone m2 t = .gone := lk_out fun x hx => blt_lt (ht2 x hx).1
  have hlt : ∀ t, (lk OB.gone m2 t).live = true → t < n2 := fun t h => by
    rcases Nat.lt_or_ge t n2 with h1 | h1
    · exact h1
    · rw [hout t h1] at h; cases h
  have hlive : ∀ t, (lk OB.gone m2 t).live = true → (lk OB.gone m (f t)).live = true := fun t h => by
    rcases leo_at hm t with h1 | h1
    · rw [h1] at h; cases h
    · rw [h1]
      cases hob : lk OB.gone m2 t <;> rw [hob] at h <;> first | rfl | cases h
  refine ⟨fun t => ρ (f t), Z, hg.size, hg.defers, fun t => ?_, fun t => ?_, fun t t' g h1 h2 h3 h4 => ?_, fun t g h1 h2 => hg.out (f t) g (hlive t h1) h2, hg.zlt, fun t ht => ⟨hout t ht, fun s hs => ?_, fun s hs => ?_⟩, hg.os, hg.tape, hg.output, hg.big, hg.old, fun i hi => by rw [hpin i hi]; exact hg.pin i hi, fun t ht => Nat.le_trans hn2 ht, hg.zin, hg.zout⟩
  · rcases les_at hl t with h1 | h1
    · rw [h1]; trivial
    · have := hg.slot t
      rw [h1] at this
      exact DA.sub this
  · rcases leo_at hm t with h1 | h1
    · rw [h1]; trivial
    · have := hg.obj (f t)
      rw [h1] at this
      exact DO.sub this
  · exact hinj t t' (hlt t h1) (hlt t' h2) (hg.sep (f t) (f t') g (hlive t h1) (hlive t' h2) h3 h4)
  · exact absurd (hsl s t hs) (by omega)
  · exact absurd (hol s t hs) (by omega)

def Le (cx : Cx) (l : SL) (m : OL) (n : Nat) (l2 : SL) (m2 : OL) (n2 : Nat) : Prop := ∀ a w, St cx l m n a w → St cx l2 m2 n2 a w

/-- tag t of the new view is p[t] of the old. -/
def perm (p : List Nat) (t : Nat) : Nat := p.getD t 0
def nodupB : List Nat → Bool
  | [] => true
  | x :: xs => xs.all (fun y => !Nat.beq x y) && nodupB xs
theorem nodupB_inj : ∀ {p : List Nat}, nodupB p = true → ∀ i j, i < p.length → j < p.length → perm p i = perm p j → i = j
  | x :: xs, h, 0, 0, _, _, _ => rfl
  | x :: xs, h, 0, j + 1, _, hj, e => by
    exfalso
    simp only [nodupB, Bool.and_eq_true, List.all_eq_true] at h
    have hj' : j < xs.length := by simpa using hj
    have e' : x = xs[j] := by simpa [perm, List.getD, hj'] using e
    have := h.1 xs[j] (List.getElem_mem _)
    rw [← e', beq_self] at this
    cases this
  | x :: xs, h, i + 1, 0, hi, _, e => by
    exfalso
    simp only [nodupB, Bool.and_eq_true, List.all_eq_true] at h
    have hi' : i < xs.length := by simpa using hi
    have e' : xs[i] = x := by simpa [perm, List.getD, hi'] using e
    have := h.1 xs[i] (List.getElem_mem _)
    rw [e', beq_self] at this
    cases this
  | x :: xs, h, i + 1, j + 1, hi, hj, e => by
    simp only [nodupB, Bool.and_eq_true] at h
    have := nodupB_inj h.2 i j (by simpa using hi) (by simpa using hj) (by simpa [perm] using e)
    omega

def pinB (m0 : Nat) (p : List Nat) : Bool := Nat.ble m0 p.length && (List.range m0).all fun i => Nat.beq (perm p i) i

theorem le_mk (p : List Nat) {l l2 : SL} {m m2 : OL} {n n2 : Nat} (hp : nodupB p = true) (hpin : pinB cx.m0 p = true) (hn : p.length = n2) (htags : tagsOk l2 m2 n2 = true) (hl : LeS l (perm p) l2) (hm : LeO m (perm p) m2) : Le cx l m n l2 m2 n2 := by
  intro a w hs
  subst hn
  simp only [pinB, Bool.and_eq_true, List.all_eq_true] at hpin
  exact st_le (perm p) (fun i hi => Nat.eq_of_beq_eq_true (hpin.2 i (List.mem_range.2 hi))) (Nat.le_of_ble_eq_true hpin.1) (nodupB_inj hp) htags hl hm hs

theorem Le.refl (l : SL) (m : OL) (n : Nat) : Le cx l m n l m n := fun _ _ h => h

theorem aw_le {c : Code} {l2 : SL} {m2 : OL} {n2 : Nat} (h : Le cx l m n l2 m2 n2) (k : AW P cx c Q l2 m2 n2) : AW P cx c Q l m n := fun a w hs => k a w (h a w hs)
theorem al_le {todo : List Oper} {l2 : SL} {m2 : OL} {n2 : Nat} (h : Le cx l m n l2 m2 n2) (k : AL P ops cx Q todo l2 m2 n2) : AL P ops cx Q todo l m n := fun a w hs => k a w (h a w hs)

/-- An object is written no more. -/
theorem le_freeze (t : Nat) {wd : Nat} {e : TypeId} {rows : List (List CV)} (h : lk .gone m t = .row wd e rows) : Le cx l m n l ((t, .froz wd rows) :: m) n := by
  rintro a w ⟨ρ, Z, hg⟩
  exact ⟨ρ, _, hg.freeze h⟩
/-- A slot that holds nil holds an empty slice of the call's own. -/
theorem le_ownNil (s wd : Nat) (e : TypeId) (h : lk .dead l s = .raw (.slice none 0 0)) : Le cx l m n ((s, .own n) :: l) ((n, .row wd e []) :: m) (n + 1) := by
  rintro a w ⟨ρ, Z, hg⟩
  have h1 := hg.ownNil (n := n) (wd := wd) (e := e) (Nat.le_refl n)
  have hv : a.tmps.getD s undef = .slice none 0 0 := by
    have := hg.slot s
    rw [h] at this
    exact da_raw this
  have h2 : Good cx (lkf (lk .dead l) [(s, .own n)]) (lkf (lk .gone m) [(n, .row wd e [])]) (fun s => n ≤ s ∧ s ≠ n) a w (fun s => if s = n then .slice none 0 0 else ρ s) Z := by
    refine ⟨h1.size, h1.defers, fun t => ?_, h1.obj, h1.sep, h1.out, h1.zlt, fun t ht => ?_, h1.os, h1.tape, h1.output, h1.big, h1.old, h1.pin, h1.vlo, h1.zin, h1.zout⟩
    · rw [lkf_one]
      split
      · rename_i e; subst e; exact ⟨by rw [hv]; simp, by rw [hv]; rfl⟩
      · exact h1.slot t
    · obtain ⟨a1, a2, a3⟩ := h1.virgin t ht
      refine ⟨a1, fun s' => ?_, a3⟩
      rw [lkf_one]
      split
      · simp [AV.tags, AR.tags, A1.tag]; exact ht.2
      · exact a2 s'
  exact ⟨_, Z, h2.weak fun t ht => ⟨by omega, by omega⟩⟩
/-- A slot that holds nil holds an empty slice. -/
theorem le_slNil (s wd : Nat) (h : lk .dead l s = .raw (.slice none 0 0)) : Le cx l m n ((s, .sl wd []) :: l) m n := by
  rintro a w ⟨ρ, Z, hg⟩
  refine ⟨ρ, Z, ?_⟩
  rw [show lk AV.dead ((s, .sl wd []) :: l) = lkf (lk .dead l) [(s, .sl wd [])] from lk_cons _ _ _ _]
  have hv : a.tmps.getD s undef = .slice none 0 0 := by
    have := hg.slot s
    rw [h] at this
    exact da_raw this
  refine ⟨hg.size, hg.defers, fun t => ?_, hg.obj, hg.sep, hg.out, hg.zlt, fun t ht => ?_, hg.os, hg.tape, hg.output, hg.big, hg.old, hg.pin, hg.vlo, hg.zin, hg.zout⟩
  · rw [lkf_one]
    split
    · rename_i e; subst e; rw [hv]; exact DC.nil wd none 0 (Nat.zero_le _)
    · exact hg.slot t
  · obtain ⟨a1, a2, a3⟩ := hg.virgin t ht
    refine ⟨a1, fun s' => ?_, a3⟩
    rw [lkf_one]
    split
    · simp [AV.tags, AR.tags, A1.tag]
    · exact a2 s'
/-- A slot that holds a frozen object holds its slice. -/
theorem le_frozSl (s : Nat) {t wd : Nat} {rows : List (List CV)} (h : lk .dead l s = .own t) (ho : lk .gone m t = .froz wd rows) : Le cx l m n ((s, .sl wd rows) :: l) m n := by
  rintro a w ⟨ρ, Z, hg⟩
  refine ⟨ρ, Z, ?_⟩
  rw [show lk AV.dead ((s, .sl wd rows) :: l) = lkf (lk .dead l) [(s, .sl wd rows)] from lk_cons _ _ _ _]
  have hv : DA ρ Z w (.sl wd rows) (a.tmps.getD s undef) := by
    have := hg.slot s
    rw [h] at this
    have h2 := hg.obj t
    rw [ho] at h2
    have h3 : a.tmps.getD s undef = ρ t := this.1
    rw [h3]
    exact h2
  refine ⟨hg.size, hg.defers, fun t => ?_, hg.obj, hg.sep, hg.out, hg.zlt, fun t ht => ?_, hg.os, hg.tape, hg.output, hg.big, hg.old, hg.pin, hg.vlo, hg.zin, hg.zout⟩
  · rw [lkf_one]
    split
    · rename_i e; subst e; exact hv
    · exact hg.slot t
  · obtain ⟨a1, a2, a3⟩ := hg.virgin t ht
    refine ⟨a1, fun s' => ?_, a3⟩
    rw [lkf_one]
    split
    · simp [AV.tags, AR.tags, A1.tag]
    · exact a2 s'

/-! ### loops -/
theorem aw_loop {γ : Type} {c : Code} (fl : γ → SL) (fm : γ → OL) (fn : γ → Nat) (I : γ → Prop) (μ : γ → Nat) (g0 : γ) (h0 : I g0) (hle : Le cx l m n (fl g0) (fm g0) (fn g0))
    (round : ∀ g, I g → AW P cx c (thn (fun l m n => ∃ g', I g' ∧ μ g' < μ g ∧ Le cx l m n (fl g') (fm g') (fn g')) Q) (fl g) (fm g) (fn g)) : AW P cx (.loop c) Q l m n := by
  intro a w hs b k cs
  have key : ∀ N g a w, μ g = N → I g → St cx (fl g) (fm g) (fn g) a w →
      ∃ e a' w', conc cx Q e a' w' ∧ Arrives P (lone (b.at a (.code c :: .inLoop c :: k)) cs w) b k cs e a' w' := by
    intro N
    induction N using Nat.strongRecOn with
    | _ N ih =>
      intro g a w hN hI hst
      obtain ⟨e, a₁, w₁, ⟨l1, m1, n1, hq, hs1⟩, harr⟩ := round g hI a w hst b (.inLoop c :: k) cs
      cases e with
      | normal =>
        obtain ⟨g', hI', hlt, hle'⟩ := hq
        obtain ⟨e₂, a₂, w₂, hq₂, harr₂⟩ := ih (μ g') (hN ▸ hlt) g' a₁ w₁ rfl hI' (hle' a₁ w₁ hs1)
        exact ⟨e₂, a₂, w₂, hq₂, .of_steps (Steps.trans harr (.one step_inLoop)) harr₂⟩
      | exit id => exact ⟨_, a₁, w₁, ⟨l1, m1, n1, hq, hs1⟩, .pass (x := .inLoop c) rfl (fun _ _ => .inl (by simp)) harr⟩
      | goto l => exact ⟨_, a₁, w₁, ⟨l1, m1, n1, hq, hs1⟩, .pass (x := .inLoop c) rfl (fun _ _ => .inl (by simp)) harr⟩
      | ret => exact ⟨_, a₁, w₁, ⟨l1, m1, n1, hq, hs1⟩, .pass (x := .inLoop c) rfl (fun _ _ => .inl (by simp)) harr⟩
      | panic ch => exact ⟨_, a₁, w₁, ⟨l1, m1, n1, hq, hs1⟩, .pass (x := .inLoop c) rfl (fun _ _ => .inl (by simp)) harr⟩
      | outgrown => exact ⟨_, a₁, w₁, ⟨l1, m1, n1, hq, hs1⟩, .pass (x := .inLoop c) rfl (fun _ _ => .inl (by simp)) harr⟩
  obtain ⟨e, a', w', hq, harr⟩ := key _ g0 a w rfl h0 (hle a w hs)
  exact ⟨e, a', w', hq, .of_steps (.one step_loop) harr⟩

/-- A cut: what holds behind x is said once. -/
theorem aw_cut {γ : Type} {x y : Code} (fl : γ → SL) (fm : γ → OL) (fn : γ → Nat) (I : γ → Prop)
    (h1 : AW P cx x (thn (fun l m n => ∃ g, I g ∧ Le cx l m n (fl g) (fm g) (fn g)) Q) l m n) (h2 : ∀ g, I g → AW P cx y Q (fl g) (fm g) (fn g)) : AW P cx (.seq x y) Q l m n :=
  aw_seq (aw_mono h1 fun e l m n h => by
    cases e <;> first | exact h | exact (let ⟨g, hI, hle⟩ := h; aw_le hle (h2 g hI)))
end
end Go.Proofs.YtllgddednlfhfaaDoor
