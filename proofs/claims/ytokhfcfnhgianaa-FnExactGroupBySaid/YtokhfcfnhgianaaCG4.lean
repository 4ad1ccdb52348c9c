/- Texts: Eng9 Eng10 -/
import Derived.Test.YtokhfcfnhgianaaCG3
/-
  The rules: regions in the text's order, tests, blocks, loops, views.
-/
namespace Go.Proofs.Ytokhfcfnhgianaa
open Go.RowKit
set_option linter.unusedVariables false
set_option linter.unusedSimpArgs false

theorem lk_cons {α : Type} (d : α) (k : Nat) (x : α) (l : List (Nat × α)) : lk d ((k, x) :: l) = lkf (lk d l) [(k, x)] := rfl

abbrev SL := List (Nat × AV)
abbrev OL := List (Nat × OB)

def St (cx : Cx) (l : SL) (m : OL) (n : Nat) (a : Act) (w : World) : Prop := Inv cx (lk .dead l) (lk .gone m) (fun t => n ≤ t) a w

abbrev APost := Exit → SL → OL → Nat → Prop
def conc (cx : Cx) (Q : APost) : Exit → Act → World → Prop := fun e a w => ∃ l m n, Q e l m n ∧ St cx l m n a w

def AL (P : Program) (ops : Array Oper) (cx : Cx) (Q : APost) (todo : List Oper) (l : SL) (m : OL) (n : Nat) : Prop := ∀ a w, St cx l m n a w → wpList P ops (conc cx Q) todo a w
def AW (P : Program) (cx : Cx) (c : Code) (Q : APost) (l : SL) (m : OL) (n : Nat) : Prop := ∀ a w, St cx l m n a w → c.wp P (conc cx Q) a w

section
variable {P : Program} {ops : Array Oper} {cx : Cx} {Q : APost} {rest : List Oper} {l : SL} {m : OL} {n : Nat}

theorem al_nil (h : Q .normal l m n) : AL P ops cx Q [] l m n := fun a w hs => ⟨l, m, n, h, hs⟩

theorem al_x {dst : Option Tmp} {op : Op} {ty : TypeId} {pos : String} {af : Array Edge} {R : List (Operand × AV)} {RO : OL} {NT : List Nat} {U : SL} {UO : OL} (hx : OpX P ⟨dst, op, ty, pos, af, none⟩ R RO NT U UO)
    (hR : AgL (lk .dead l) R) (hO : OgL (lk .gone m) RO) (hV : VgL (fun t => n ≤ t) NT) (hU : UgL cx.N U) {n' : Nat} (hn : ∀ t, n' ≤ t → n ≤ t ∧ t ∉ NT)
    (k : AL P ops cx Q rest (U ++ l) (UO ++ m) n') : AL P ops cx Q (⟨dst, op, ty, pos, af, none⟩ :: rest) l m n := by
  intro a w hs
  refine wpList_plain rfl fun K hK => hx cx _ _ _ a w hR hO hV hU hs K _ fun a' w' hi => hK _ _ (k a' w' ?_)
  unfold St
  rw [← lkf_lk, ← lkf_lk]
  obtain ⟨ρ, Z, hg⟩ := hi
  exact ⟨ρ, Z, hg.weak hn⟩

variable {dst : Option Tmp} {op : Op} {ty : TypeId} {pos : String} {af : Array Edge} {R : List (Operand × AV)} {RO : OL}

/-- a value into a slot -/
theorem al_v {d : Nat} {x : AV} (hx : OpX P ⟨some d, op, ty, pos, af, none⟩ R RO [] [(d, x)] []) (hR : AgL (lk .dead l) R) (hO : OgL (lk .gone m) RO) (hd : Nat.blt d cx.N = true)
    (k : AL P ops cx Q rest ((d, x) :: l) m n) : AL P ops cx Q (⟨some d, op, ty, pos, af, none⟩ :: rest) l m n :=
  al_x hx hR hO trivial ⟨hd, trivial⟩ (fun t ht => ⟨ht, by simp⟩) k
/-- a new object -/
theorem al_n {d : Nat} {x : AV} {UO : OL} (hx : OpX P ⟨some d, op, ty, pos, af, none⟩ R RO [n] [(d, x)] UO) (hR : AgL (lk .dead l) R) (hO : OgL (lk .gone m) RO) (hd : Nat.blt d cx.N = true)
    (k : AL P ops cx Q rest ((d, x) :: l) (UO ++ m) (n + 1)) : AL P ops cx Q (⟨some d, op, ty, pos, af, none⟩ :: rest) l m n :=
  al_x hx hR hO ⟨Nat.le_refl _, trivial⟩ ⟨hd, trivial⟩ (fun t ht => ⟨by omega, by simp; omega⟩) k
/-- a store -/
theorem al_s {UO : OL} (hx : OpX P ⟨none, op, ty, pos, af, none⟩ R RO [] [] UO) (hR : AgL (lk .dead l) R) (hO : OgL (lk .gone m) RO)
    (k : AL P ops cx Q rest l (UO ++ m) n) : AL P ops cx Q (⟨none, op, ty, pos, af, none⟩ :: rest) l m n :=
  al_x hx hR hO trivial trivial (fun t ht => ⟨ht, by simp⟩) k

theorem yielded_eq {l : SL} {m : OL} {n : Nat} {a : Act} {w : World} (hs : St cx l m n a w) {j dj : Nat} {b : Bool} (hj : (ops[j]?).bind (·.dst) = some dj) (hd : Nat.blt dj cx.N = true) (hb : lk .dead l dj = .b b) :
    yielded ops a.tmps j = some b := by
  obtain ⟨ρ, Z, hg⟩ := hs
  have h1 := hg.slot dj
  rw [hb] at h1
  have h2 := da_raw h1
  have hlt : dj < a.tmps.size := by rw [hg.size]; exact blt_lt hd
  have h3 : a.tmps[dj]? = some (.bool b) := by
    rw [Array.getElem?_eq_getElem hlt]
    simp only [Array.getD, hlt, dite_true] at h2
    exact congrArg some h2
  simp [yielded, hj, h3]

/-- a guarded operation that is carried out -/
theorem al_on {j dj : Nat} {want b : Bool} (hj : (ops[j]?).bind (·.dst) = some dj) (hd : Nat.blt dj cx.N = true) (hb : lk .dead l dj = .b b) (hw : b = want)
    (k : AL P ops cx Q (⟨dst, op, ty, pos, af, none⟩ :: rest) l m n) : AL P ops cx Q (⟨dst, op, ty, pos, af, some (j, want)⟩ :: rest) l m n := by
  intro a w hs
  have hk := k a w hs
  have hy := yielded_eq hs hj hd hb
  subst hw
  have h1 : Region.wanted (⟨dst, op, ty, pos, af, some (j, b)⟩ : Oper) (yielded ops a.tmps) = true := by simp [Region.wanted, hy]
  have h2 : Region.wanted (⟨dst, op, ty, pos, af, none⟩ : Oper) (yielded ops a.tmps) = true := by simp [Region.wanted]
  unfold wpList at hk ⊢
  rw [if_pos h2] at hk
  rw [if_pos h1]
  exact hk
/-- a guarded operation that is passed over -/
theorem al_off {j dj d : Nat} {want b : Bool} (hj : (ops[j]?).bind (·.dst) = some dj) (hd : Nat.blt dj cx.N = true) (hb : lk .dead l dj = .b b) (hw : b = !want) (hd2 : Nat.blt d cx.N = true)
    (k : AL P ops cx Q rest ((d, .tup []) :: l) m n) : AL P ops cx Q (⟨some d, op, ty, pos, af, some (j, want)⟩ :: rest) l m n := by
  intro a w hs
  have hy := yielded_eq hs hj hd hb
  subst hw
  have h1 : Region.wanted (⟨some d, op, ty, pos, af, some (j, want)⟩ : Oper) (yielded ops a.tmps) = false := by cases want <;> simp [Region.wanted, hy]
  unfold wpList
  rw [if_neg (by rw [h1]; simp)]
  refine k _ w ?_
  obtain ⟨ρ, Z, hg⟩ := hs
  have := hg.put (x := .tup []) (v := undef) (blt_lt hd2) ⟨[], rfl, trivial⟩ (by simp [AV.tags])
  unfold St
  rw [show lk AV.dead ((d, .tup []) :: l) = lkf (lk .dead l) [(d, .tup [])] from lk_cons _ _ _ _]
  exact ⟨ρ, Z, this⟩
theorem yielded_none {S : Nat → AV} {O : Nat → OB} {V : Nat → Prop} {a : Act} {w : World} (hs : Inv cx S O V a w) {ops : Array Oper} {j dj : Nat} (hj : (ops[j]?).bind (·.dst) = some dj) (hb : S dj = .tup []) :
    yielded ops a.tmps j = none := by
  obtain ⟨ρ, Z, hg⟩ := hs
  have h1 := hg.slot dj
  rw [hb] at h1
  obtain ⟨us, h2, h3⟩ := h1
  have h4 : us = [] := by
    cases us with
    | nil => rfl
    | cons u us => exact h3.elim
  subst h4
  unfold yielded
  rw [hj]
  show (match a.tmps[dj]? with | some (.bool b) => some b | _ => none) = none
  rcases Nat.lt_or_ge dj a.tmps.size with hlt | hge
  · rw [Array.getElem?_eq_getElem hlt]
    simp only [Array.getD, hlt, dite_true] at h2
    rw [show a.tmps[dj] = _ from h2]
  · rw [Array.getElem?_eq_none hge]
/-- both ways -/
theorem al_g {j dj d : Nat} {want b : Bool} (hj : (ops[j]?).bind (·.dst) = some dj) (hd : Nat.blt dj cx.N = true) (hb : lk .dead l dj = .b b) (hd2 : Nat.blt d cx.N = true)
    (h1 : b = want → AL P ops cx Q (⟨some d, op, ty, pos, af, none⟩ :: rest) l m n) (h0 : b = (!want) → AL P ops cx Q rest ((d, .tup []) :: l) m n) :
    AL P ops cx Q (⟨some d, op, ty, pos, af, some (j, want)⟩ :: rest) l m n := by
  by_cases h : b = want
  · exact al_on hj hd hb h (h1 h)
  · have h' : b = !want := by cases b <;> cases want <;> simp_all
    exact al_off hj hd hb h' hd2 (h0 h')

theorem aw_skip (h : Q .normal l m n) : AW P cx .skip Q l m n := fun a w hs => wp_skip ⟨l, m, n, h, hs⟩
theorem aw_exit {id : Nat} (h : Q (.exit id) l m n) : AW P cx (.exit id) Q l m n := fun a w hs => wp_exit ⟨l, m, n, h, hs⟩
theorem aw_ret (h : Q .ret l m n) : AW P cx .ret Q l m n := fun a w hs => wp_ret ⟨l, m, n, h, hs⟩

def thn (N : SL → OL → Nat → Prop) (Q : APost) : APost
  | .normal, l, m, n => N l m n
  | e, l, m, n => Q e l m n
def inb (id : Nat) (Q : APost) : APost
  | .exit j, l, m, n => if j = id then Q .normal l m n else Q (.exit j) l m n
  | e, l, m, n => Q e l m n

theorem aw_seq {x y : Code} (h : AW P cx x (thn (fun l m n => AW P cx y Q l m n) Q) l m n) : AW P cx (.seq x y) Q l m n := by
  intro a w hs
  refine wp_seq (Code.wp_mono ?_ (h a w hs))
  rintro e a w ⟨l, m, n, h1, h2⟩
  cases e <;> first | exact h1 a w h2 | exact ⟨l, m, n, h1, h2⟩

theorem aw_block {id : Nat} {c : Code} (h : AW P cx c (inb id Q) l m n) : AW P cx (.block id c) Q l m n := by
  intro a w hs
  refine wp_block (Code.wp_mono ?_ (h a w hs))
  rintro e a w ⟨l, m, n, h1, h2⟩
  cases e with
  | exit j =>
    simp only [Exit.inBlock]
    simp only [inb] at h1
    split
    · rename_i e; rw [if_pos e] at h1; exact ⟨l, m, n, h1, h2⟩
    · rename_i e; rw [if_neg e] at h1; exact ⟨l, m, n, h1, h2⟩
  | _ => exact ⟨l, m, n, h1, h2⟩

theorem thn_n {N : SL → OL → Nat → Prop} (h : N l m n) : thn N Q .normal l m n := h
theorem thn_r {N : SL → OL → Nat → Prop} (h : Q .ret l m n) : thn N Q .ret l m n := h
theorem inb_n {id : Nat} (h : Q .normal l m n) : inb id Q .normal l m n := h
theorem inb_r {id : Nat} (h : Q .ret l m n) : inb id Q .ret l m n := h
theorem eval_of {a : Act} {w : World} (hs : St cx l m n a w) {c : Operand} {b : Bool} (hc : Ag (lk .dead l) c (.b b)) : a.eval c = .bool b := by
  obtain ⟨ρ, Z, hg⟩ := hs
  exact da_raw (hg.ag hc)

theorem aw_cond {c : Operand} {x y : Code} {b : Bool} (hc : Ag (lk .dead l) c (.b b)) (h1 : b = true → AW P cx x Q l m n) (h0 : b = false → AW P cx y Q l m n) : AW P cx (.cond c x y) Q l m n := by
  intro a w hs
  exact wp_cond_split (eval_of hs hc) (fun h => h1 h a w hs) (fun h => h0 h a w hs)
theorem aw_cond_t {c : Operand} {x y : Code} {b : Bool} (hc : Ag (lk .dead l) c (.b b)) (hb : b = true) (h1 : AW P cx x Q l m n) : AW P cx (.cond c x y) Q l m n := by
  intro a w hs
  exact wp_cond_true (by rw [← hb]; exact eval_of hs hc) (h1 a w hs)
theorem aw_cond_f {c : Operand} {x y : Code} {b : Bool} (hc : Ag (lk .dead l) c (.b b)) (hb : b = false) (h0 : AW P cx y Q l m n) : AW P cx (.cond c x y) Q l m n := by
  intro a w hs
  exact wp_cond_false (by rw [← hb]; exact eval_of hs hc) (h0 a w hs)

theorem aw_region {id : Nat} {ol : List Oper} (h : AL P ol.toArray cx Q ol l m n) : AW P cx (.region id ol.toArray false) Q l m n :=
  fun a w hs => wp_region_lit (h a w hs)

/-- Tags by other names. -/
def A1.sub (f : Nat → Nat) : A1 → A1
  | .own t => .own (f t)
  | .ref t o => .ref (f t) o
  | .el t wd i k => .el (f t) wd i k
  | .fn g r caps => .fn g (match r with | none => none | some (t, o) => some (f t, o)) caps
  | x => x
def AR.sub (f : Nat → Nat) : AR → AR
  | .one x => .one (x.sub f)
  | .agg xs => .agg (xs.map (·.sub f))
def AV.sub (f : Nat → Nat) : AV → AV
  | .r x => .r (x.sub f)
  | .tup xs => .tup (xs.map (·.sub f))
  | .dead => .dead
def OB.sub (f : Nat → Nat) : OB → OB
  | .box e cells => .box e (cells.map (·.sub f))
  | .gen ok cells => .gen ok (cells.map (·.sub f))
  | o => o

theorem D1.sub {ρ : Nat → Value} {Z : Nat → Prop} {w : World} {f : Nat → Nat} {x : A1} {v : Value} (h : D1 ρ Z w (x.sub f) v) : D1 (fun t => ρ (f t)) Z w x v := by
  cases x with
  | fn g r caps => cases r <;> exact h
  | _ => exact h
theorem D1L.sub {ρ : Nat → Value} {Z : Nat → Prop} {w : World} {f : Nat → Nat} : ∀ {xs : List A1} {us : List Value}, D1L ρ Z w (xs.map (·.sub f)) us → D1L (fun t => ρ (f t)) Z w xs us
  | [], [], _ => trivial
  | x :: xs, u :: us, h => ⟨D1.sub h.1, D1L.sub h.2⟩
  | [], _ :: _, h => h.elim
  | _ :: _, [], h => h.elim
theorem DR.sub {ρ : Nat → Value} {Z : Nat → Prop} {w : World} {f : Nat → Nat} {x : AR} {v : Value} (h : DR ρ Z w (x.sub f) v) : DR (fun t => ρ (f t)) Z w x v := by
  cases x with
  | one x => exact D1.sub (x := x) h
  | agg xs => obtain ⟨us, h1, h2⟩ := h; exact ⟨us, h1, D1L.sub h2⟩
theorem DRL.sub {ρ : Nat → Value} {Z : Nat → Prop} {w : World} {f : Nat → Nat} : ∀ {xs : List AR} {us : List Value}, DRL ρ Z w (xs.map (·.sub f)) us → DRL (fun t => ρ (f t)) Z w xs us
  | [], [], _ => trivial
  | x :: xs, u :: us, h => ⟨DR.sub (x := x) h.1, DRL.sub h.2⟩
  | [], _ :: _, h => h.elim
  | _ :: _, [], h => h.elim
theorem DA.sub {ρ : Nat → Value} {Z : Nat → Prop} {w : World} {f : Nat → Nat} {x : AV} {v : Value} (h : DA ρ Z w (x.sub f) v) : DA (fun t => ρ (f t)) Z w x v := by
  cases x with
  | r x => exact DR.sub (x := x) h
  | tup xs => obtain ⟨us, h1, h2⟩ := h; exact ⟨us, h1, DRL.sub h2⟩
  | dead => trivial
theorem DO.sub {ρ : Nat → Value} {Z : Nat → Prop} {w : World} {f : Nat → Nat} {t : Nat} {ob : OB} (h : DO ρ Z w (f t) (ob.sub f)) : DO (fun t => ρ (f t)) Z w t ob := by
  cases ob with
  | box e cells => obtain ⟨g, us, h1, h2, h3⟩ := h; exact ⟨g, us, h1, h2, D1L.sub h3⟩
  | gen ok cells => obtain ⟨g, o, us, h1, h2, h3, h4⟩ := h; exact ⟨g, o, us, h1, h2, h3, D1L.sub h4⟩
  | _ => exact h

/-- 'l', 'm' hold what 'l2', 'm2' say, tag t of these being tag p[t] of those. -/
def LeS (l : SL) (f : Nat → Nat) : SL → Prop
  | [] => True
  | (t, x) :: r => lk .dead l t = x.sub f ∧ LeS l f r
def LeO (m : OL) (f : Nat → Nat) : OL → Prop
  | [] => True
  | (t, x) :: r => lk .gone m (f t) = x.sub f ∧ LeO m f r

def AV.okTags (n : Nat) (x : AV) : Bool := x.tags.all (Nat.blt · n)
def OB.okTags (n : Nat) (x : OB) : Bool := x.tags.all (Nat.blt · n)

theorem les_at {l : SL} {f : Nat → Nat} : ∀ {l2 : SL}, LeS l f l2 → ∀ t, lk .dead l2 t = .dead ∨ lk .dead l t = (lk .dead l2 t).sub f
  | [], _, t => .inl rfl
  | (k, x) :: l2, h, t => by
    by_cases e : k = t
    · subst e
      right
      simp only [lk, beq_self, cond_true]
      exact h.1
    · simp only [lk, beq_ne e, cond_false]
      exact les_at h.2 t
theorem leo_at {m : OL} {f : Nat → Nat} : ∀ {m2 : OL}, LeO m f m2 → ∀ t, lk .gone m2 t = .gone ∨ lk .gone m (f t) = (lk .gone m2 t).sub f
  | [], _, t => .inl rfl
  | (k, x) :: m2, h, t => by
    by_cases e : k = t
    · subst e
      right
      simp only [lk, beq_self, cond_true]
      exact h.1
    · simp only [lk, beq_ne e, cond_false]
      exact leo_at h.2 t

def tagsOk (l2 : SL) (m2 : OL) (n2 : Nat) : Bool := l2.all (fun p => p.2.okTags n2) && m2.all (fun p => Nat.blt p.1 n2 && p.2.okTags n2)

theorem lk_all {α : Type} {d : α} {p : α → Prop} (hd : p d) : ∀ {l : List (Nat × α)}, (∀ x ∈ l, p x.2) → ∀ t, p (lk d l t)
  | [], _, t => hd
  | (k, x) :: l, h, t => by
    by_cases e : k = t
    · subst e; simp only [lk, beq_self, cond_true]; exact h (k, x) (.head _)
    · simp only [lk, beq_ne e, cond_false]; exact lk_all hd (fun y hy => h y (.tail _ hy)) t

theorem lk_out {α : Type} {d : α} {n : Nat} : ∀ {l : List (Nat × α)}, (∀ x ∈ l, x.1 < n) → ∀ t, n ≤ t → lk d l t = d
  | [], _, t, _ => rfl
  | (k, x) :: l, h, t, ht => by
    have := h (k, x) (.head _)
    simp only [lk, beq_ne (show k ≠ t by dsimp only at this; omega), cond_false]
    exact lk_out (fun y hy => h y (.tail _ hy)) t ht

/-- The state seen through fewer slots and objects, the tags named anew. -/
theorem st_le {l l2 : SL} {m m2 : OL} {n n2 : Nat} (f : Nat → Nat) (hpin : ∀ i, i < cx.m0 → f i = i) (hn2 : cx.m0 ≤ n2) (hinj : ∀ i j, i < n2 → j < n2 → f i = f j → i = j) (htags : tagsOk l2 m2 n2 = true) (hl : LeS l f l2) (hm : LeO m f m2)
    {a : Act} {w : World} (hs : St cx l m n a w) : St cx l2 m2 n2 a w := by
  obtain ⟨ρ, Z, hg⟩ := hs
  simp only [tagsOk, Bool.and_eq_true, List.all_eq_true] at htags
  obtain ⟨ht1, ht2⟩ := htags
  have hsl : ∀ t, ∀ s ∈ (lk AV.dead l2 t).tags, s < n2 := fun t => lk_all (p := fun x : AV => ∀ s ∈ x.tags, s < n2) (by simp [AV.tags]) (fun x hx s hs => by
    have := ht1 x hx
    simp only [AV.okTags, List.all_eq_true] at this
    exact blt_lt (this s hs)) t
  have hol : ∀ t, ∀ s ∈ (lk OB.gone m2 t).tags, s < n2 := fun t => lk_all (p := fun x : OB => ∀ s ∈ x.tags, s < n2) (by simp [OB.tags]) (fun x hx s hs => by
    have := (ht2 x hx).2
    simp only [OB.okTags, List.all_eq_true] at this
    exact blt_lt (this s hs)) t
  have hout : ∀ t, n2 ≤ t → lk OB.gone m2 t = .gone := lk_out fun x hx => blt_lt (ht2 x hx).1
  have hlt : ∀ t, (lk OB.gone m2 t).live = true → t < n2 := fun t h => by
    rcases Nat.lt_or_ge t n2 with h1 | h1
    · exact h1
    · rw [hout t h1] at h; cases h
  have hlive : ∀ t, (lk OB.gone m2 t).live = true → (lk OB.gone m (f t)).live = true := fun t h => by
    rcases leo_at hm t with h1 | h1
    · rw [h1] at h; cases h
    · rw [h1]
      cases hob : lk OB.gone m2 t <;> rw [hob] at h <;> first | rfl | cases h
  refine ⟨fun t => ρ (f t), Z, hg.size, hg.defers, fun t => ?_, fun t => ?_, fun t t' g h1 h2 h3 h4 => ?_, fun t g h1 h2 => hg.out (f t) g (hlive t h1) h2, hg.zlt, fun t ht => ⟨hout t ht, fun s hs => ?_, fun s hs => ?_⟩, hg.os, hg.tape, hg.output, hg.big, hg.old, fun i hi => by rw [hpin i hi]; exact hg.pin i hi, fun t ht => Nat.le_trans hn2 ht, hg.zin, hg.zout⟩
  · rcases les_at hl t with h1 | h1
    · rw [h1]; trivial
    · have := hg.slot t
      rw [h1] at this
      exact DA.sub this
  · rcases leo_at hm t with h1 | h1
    · rw [h1]; trivial
    · have := hg.obj (f t)
      rw [h1] at this
      exact DO.sub this
  · exact hinj t t' (hlt t h1) (hlt t' h2) (hg.sep (f t) (f t') g (hlive t h1) (hlive t' h2) h3 h4)
  · exact absurd (hsl s t hs) (by omega)
  · exact absurd (hol s t hs) (by omega)

def Le (cx : Cx) (l : SL) (m : OL) (n : Nat) (l2 : SL) (m2 : OL) (n2 : Nat) : Prop := ∀ a w, St cx l m n a w → St cx l2 m2 n2 a w

/-- tag t of the new view is p[t] of the old. -/
def perm (p : List Nat) (t : Nat) : Nat := p.getD t 0
def nodupB : List Nat → Bool
  | [] => true
  | x :: xs => xs.all (fun y => !Nat.beq x y) && nodupB xs
theorem nodupB_inj : ∀ {p : List Nat}, nodupB p = true → ∀ i j, i < p.length → j < p.length → perm p i = perm p j → i = j
  | x :: xs, h, 0, 0, _, _, _ => rfl
  | x :: xs, h, 0, j + 1, _, hj, e => by
    exfalso
    simp only [nodupB, Bool.and_eq_true, List.all_eq_true] at h
    have hj' : j < xs.length := by simpa using hj
    have e' : x = xs[j] := by simpa [perm, List.getD, hj'] using e
    have := h.1 xs[j] (List.getElem_mem _)
    rw [← e', beq_self] at this
    cases this
  | x :: xs, h, i + 1, 0, hi, _, e => by
    exfalso
    simp only [nodupB, Bool.and_eq_true, List.all_eq_true] at h
    have hi' : i < xs.length := by simpa using hi
    have e' : xs[i] = x := by simpa [perm, List.getD, hi'] using e
    have := h.1 xs[i] (List.getElem_mem _)
    rw [e', beq_self] at this
    cases this
  | x :: xs, h, i + 1, j + 1, hi, hj, e => by
    simp only [nodupB, Bool.and_eq_true] at h
    have := nodupB_inj h.2 i j (by simpa using hi) (by simpa using hj) (by simpa [perm] using e)
    omega

def pinB (m0 : Nat) (p : List Nat) : Bool := Nat.ble m0 p.length && (List.range m0).all fun i => Nat.beq (perm p i) i

theorem le_mk (p : List Nat) {l l2 : SL} {m m2 : OL} {n n2 : Nat} (hp : nodupB p = true) (hpin : pinB cx.m0 p = true) (hn : p.length = n2) (htags : tagsOk l2 m2 n2 = true) (hl : LeS l (perm p) l2) (hm : LeO m (perm p) m2) : Le cx l m n l2 m2 n2 := by
  intro a w hs
  subst hn
  simp only [pinB, Bool.and_eq_true, List.all_eq_true] at hpin
  exact st_le (perm p) (fun i hi => Nat.eq_of_beq_eq_true (hpin.2 i (List.mem_range.2 hi))) (Nat.le_of_ble_eq_true hpin.1) (nodupB_inj hp) htags hl hm hs

theorem Le.refl (l : SL) (m : OL) (n : Nat) : Le cx l m n l m n := fun _ _ h => h

theorem aw_le {c : Code} {l2 : SL} {m2 : OL} {n2 : Nat} (h : Le cx l m n l2 m2 n2) (k : AW P cx c Q l2 m2 n2) : AW P cx c Q l m n := fun a w hs => k a w (h a w hs)
theorem al_le {todo : List Oper} {l2 : SL} {m2 : OL} {n2 : Nat} (h : Le cx l m n l2 m2 n2) (k : AL P ops cx Q todo l2 m2 n2) : AL P ops cx Q todo l m n := fun a w hs => k a w (h a w hs)

/-- A slot that holds nil holds an empty slice of the call's own. -/
theorem le_ownNil (s wd : Nat) (e : TypeId) (h : lk .dead l s = .raw (.slice none 0 0)) : Le cx l m n ((s, .own n) :: l) ((n, .row wd e []) :: m) (n + 1) := by
  rintro a w ⟨ρ, Z, hg⟩
  have h1 := hg.ownNil (n := n) (wd := wd) (e := e) (Nat.le_refl n)
  have hv : a.tmps.getD s undef = .slice none 0 0 := by
    have := hg.slot s
    rw [h] at this
    exact da_raw this
  have h2 : Good cx (lkf (lk .dead l) [(s, .own n)]) (lkf (lk .gone m) [(n, .row wd e [])]) (fun s => n ≤ s ∧ s ≠ n) a w (fun s => if s = n then .slice none 0 0 else ρ s) Z := by
    refine ⟨h1.size, h1.defers, fun t => ?_, h1.obj, h1.sep, h1.out, h1.zlt, fun t ht => ?_, h1.os, h1.tape, h1.output, h1.big, h1.old, h1.pin, h1.vlo, h1.zin, h1.zout⟩
    · rw [lkf_one]
      split
      · rename_i e; subst e; exact ⟨by rw [hv]; simp, by rw [hv]; rfl⟩
      · exact h1.slot t
    · obtain ⟨a1, a2, a3⟩ := h1.virgin t ht
      refine ⟨a1, fun s' => ?_, a3⟩
      rw [lkf_one]
      split
      · simp [AV.tags, AR.tags, A1.tag]; exact ht.2
      · exact a2 s'
  exact ⟨_, Z, h2.weak fun t ht => ⟨by omega, by omega⟩⟩
theorem aw_loop {γ : Type} {c : Code} (fl : γ → SL) (fm : γ → OL) (fn : γ → Nat) (I : γ → Prop) (μ : γ → Nat) (g0 : γ) (h0 : I g0) (hle : Le cx l m n (fl g0) (fm g0) (fn g0))
    (round : ∀ g, I g → AW P cx c (thn (fun l m n => ∃ g', I g' ∧ μ g' < μ g ∧ Le cx l m n (fl g') (fm g') (fn g')) Q) (fl g) (fm g) (fn g)) : AW P cx (.loop c) Q l m n := by
  intro a w hs b k cs
  have key : ∀ N g a w, μ g = N → I g → St cx (fl g) (fm g) (fn g) a w →
      ∃ e a' w', conc cx Q e a' w' ∧ Arrives P (lone (b.at a (.code c :: .inLoop c :: k)) cs w) b k cs e a' w' := by
    intro N
    induction N using Nat.strongRecOn with
    | _ N ih =>
      intro g a w hN hI hst
      obtain ⟨e, a₁, w₁, ⟨l1, m1, n1, hq, hs1⟩, harr⟩ := round g hI a w hst b (.inLoop c :: k) cs
      cases e with
      | normal =>
        obtain ⟨g', hI', hlt, hle'⟩ := hq
        obtain ⟨e₂, a₂, w₂, hq₂, harr₂⟩ := ih (μ g') (hN ▸ hlt) g' a₁ w₁ rfl hI' (hle' a₁ w₁ hs1)
        exact ⟨e₂, a₂, w₂, hq₂, .of_steps (Steps.trans harr (.one step_inLoop)) harr₂⟩
      | exit id => exact ⟨_, a₁, w₁, ⟨l1, m1, n1, hq, hs1⟩, .pass (x := .inLoop c) rfl (fun _ _ => .inl (by simp)) harr⟩
      | goto l => exact ⟨_, a₁, w₁, ⟨l1, m1, n1, hq, hs1⟩, .pass (x := .inLoop c) rfl (fun _ _ => .inl (by simp)) harr⟩
      | ret => exact ⟨_, a₁, w₁, ⟨l1, m1, n1, hq, hs1⟩, .pass (x := .inLoop c) rfl (fun _ _ => .inl (by simp)) harr⟩
      | panic ch => exact ⟨_, a₁, w₁, ⟨l1, m1, n1, hq, hs1⟩, .pass (x := .inLoop c) rfl (fun _ _ => .inl (by simp)) harr⟩
      | outgrown => exact ⟨_, a₁, w₁, ⟨l1, m1, n1, hq, hs1⟩, .pass (x := .inLoop c) rfl (fun _ _ => .inl (by simp)) harr⟩
  obtain ⟨e, a', w', hq, harr⟩ := key _ g0 a w rfl h0 (hle a w hs)
  exact ⟨e, a', w', hq, .of_steps (.one step_loop) harr⟩

end
end Go.Proofs.Ytokhfcfnhgianaa
/-
  Contracts of functions; how a walk gives one; how a call uses one.
-/
namespace Go.Proofs.Ytokhfcfnhgianaa
open Go.RowKit
set_option linter.unusedVariables false
set_option linter.unusedSimpArgs false

def mkRet : List Value → Value
  | [u] => u
  | us => .tuple us.toArray
def mkRes : List AR → AV
  | [r] => .r r
  | rs => .tup rs

def obAt (obs : List OB) (i : Nat) : OB := obs.getD i .gone

/-- What holds as a call begins: its arguments, the objects that it may write. -/
structure Entry (w : World) (ρ : Nat → Value) (Z : Nat → Prop) (args : List AR) (obs : List OB) (vs : List Value) : Prop where
  args : DRL ρ Z w args vs
  objs : ∀ i, DO ρ Z w i (obAt obs i)
  sep : ∀ i j g, (obAt obs i).live = true → (obAt obs j).live = true → blk (ρ i) = some g → blk (ρ j) = some g → i = j
  nz : ∀ i g, (obAt obs i).live = true → blk (ρ i) = some g → ¬ Z g
  zlt : ∀ g, Z g → g < w.heap.size
  gl : Gl Z w

def Wr (obs : List OB) (ρ : Nat → Value) (g : Nat) : Prop := ∃ i, (obAt obs i).live = true ∧ blk (ρ i) = some g

/-- What holds as it ends: 'all': the objects that it was handed, and then the new ones. -/
structure Leave (w : World) (ρ : Nat → Value) (Z : Nat → Prop) (obs : List OB) (w' : World) (ρ' : Nat → Value) (Z' : Nat → Prop) (rs : List AR) (all : List OB) (us : List Value) : Prop where
  res : DRL ρ' Z' w' rs us
  objs : ∀ i, DO ρ' Z' w' i (obAt all i)
  same : ∀ i, i < obs.length → ρ' i = ρ i
  sep : ∀ i j g, (obAt all i).live = true → (obAt all j).live = true → blk (ρ' i) = some g → blk (ρ' j) = some g → i = j
  out : ∀ i g, (obAt all i).live = true → blk (ρ' i) = some g → ¬ Z' g ∧ (w.heap.size ≤ g ∨ Wr obs ρ g)
  zmono : ∀ g, Z g → Z' g
  znew : ∀ g, Z' g → Z g ∨ w.heap.size ≤ g ∨ Wr obs ρ g
  zlt : ∀ g, Z' g → g < w'.heap.size
  tags : (rs.all fun r => r.tags.all (Nat.blt · all.length)) = true ∧ (all.all fun o => o.okTags all.length) = true
  os : w'.os = w.os
  tape : w'.tape = w.tape
  output : w'.output = w.output
  size : w.heap.size ≤ w'.heap.size
  old : ∀ g, g < w.heap.size → ¬ Wr obs ρ g → w'.heap[g]? = w.heap[g]?

/-- The contract: from such arguments the call returns, with results and objects of which Post holds. -/
def fnOk (P : Program) (f : FuncId) : Bool :=
  match P.funcs[f]? with
  | some fn => fn.body.isSome && !(fn.name == "runtime.NumGoroutine")
  | none => false
structure Con (P : Program) (f : FuncId) (args : List AR) (obs : List OB) (Post : List AR → List OB → Prop) : Prop where
  ok : fnOk P f = true
  run : ∀ (w : World) (ρ : Nat → Value) (Z : Nat → Prop) (vs : List Value), Entry w ρ Z args obs vs →
    Calls P f vs.toArray w fun e w' => ∃ rs all us ρ' Z', Post rs all ∧ obs.length ≤ all.length ∧ e = .returned (mkRet us) ∧ Leave w ρ Z obs w' ρ' Z' rs all us

theorem Con.mono {P : Program} {f : FuncId} {args : List AR} {obs : List OB} {Post Post' : List AR → List OB → Prop} (h : Con P f args obs Post) (hp : ∀ rs all, Post rs all → Post' rs all) : Con P f args obs Post' :=
  ⟨h.ok, fun w ρ Z vs he => (h.run w ρ Z vs he).mono fun e w' ⟨rs, all, us, ρ', Z', h1, h2⟩ => ⟨rs, all, us, ρ', Z', hp _ _ h1, h2⟩⟩

def argL (k : Nat) : List AR → SL
  | [] => []
  | a :: as => (k, .r a) :: argL (k + 1) as
def obL (k : Nat) : List OB → OL
  | [] => []
  | a :: as => (k, a) :: obL (k + 1) as

theorem lk_argL : ∀ (as : List AR) (k t : Nat), lk .dead (argL k as) t = if k ≤ t then ((as[t - k]?).map AV.r).getD .dead else .dead
  | [], k, t => by simp [argL, lk]
  | a :: as, k, t => by
    simp only [argL, lk]
    by_cases e : k = t
    · subst e; simp [beq_self]
    · rw [beq_ne e, cond_false, lk_argL as (k + 1) t]
      by_cases h : k ≤ t
      · have h2 : k + 1 ≤ t := by omega
        rw [if_pos h, if_pos h2]
        have : t - k = (t - (k + 1)) + 1 := by omega
        rw [this, List.getElem?_cons_succ]
      · rw [if_neg h, if_neg (by omega)]
theorem lk_obL : ∀ (as : List OB) (k t : Nat), lk .gone (obL k as) t = if k ≤ t then (as[t - k]?).getD .gone else .gone
  | [], k, t => by simp [obL, lk]
  | a :: as, k, t => by
    simp only [obL, lk]
    by_cases e : k = t
    · subst e; simp [beq_self]
    · rw [beq_ne e, cond_false, lk_obL as (k + 1) t]
      by_cases h : k ≤ t
      · have h2 : k + 1 ≤ t := by omega
        rw [if_pos h, if_pos h2]
        have : t - k = (t - (k + 1)) + 1 := by omega
        rw [this, List.getElem?_cons_succ]
      · rw [if_neg h, if_neg (by omega)]
theorem lk_obL0 (as : List OB) (t : Nat) : lk .gone (obL 0 as) t = obAt as t := by
  rw [lk_obL]; simp [obAt]

theorem drl_len {ρ : Nat → Value} {Z : Nat → Prop} {w : World} : ∀ {xs : List AR} {us : List Value}, DRL ρ Z w xs us → us.length = xs.length
  | [], [], _ => rfl
  | _ :: _, _ :: _, h => by simp [drl_len h.2]
  | [], _ :: _, h => h.elim
  | _ :: _, [], h => h.elim

/-- What a result variable holds. -/
def RetV (P : Program) (l : SL) (m : OL) : ResultVar → AR → Prop
  | .tmp t, r => lk .dead l t = .r r
  | .cell a t, r => ∃ u e cells, lk .dead l a = .ref u 0 ∧ lk .gone m u = .box e cells ∧ ((strTy P t = some cells.length ∧ r = .agg cells) ∨ (oneTy P t = true ∧ ∃ c, cells = [c] ∧ r = .one c))
def RetS (P : Program) (l : SL) (m : OL) (f : Nat → Nat) : List ResultVar → List AR → Prop
  | [], [] => True
  | v :: vs, r :: rs => RetV P l m v (r.sub f) ∧ RetS P l m f vs rs
  | _, _ => False
def resTags (rs : List AR) (all : List OB) : Bool := (rs.all fun r => r.tags.all (Nat.blt · all.length)) && (all.all fun o => o.okTags all.length)

/-- The post of a walk: the results are there. 'p': the tags of the new objects. -/
def RetG (P : Program) (vars : List ResultVar) (m0 : Nat) (Post : List AR → List OB → Prop) : APost := fun e l m n =>
  (match e with | .normal | .ret => True | _ => False) ∧ ∃ rs all p, Post rs all ∧ m0 ≤ all.length ∧ nodupB p = true ∧ p.length = all.length ∧ pinB m0 p = true ∧ resTags rs all = true ∧ RetS P l m (perm p) vars rs ∧ LeO m (perm p) (obL 0 all)

section
variable {P : Program}

def rvVal (P : Program) (w : World) (tmps : Array Value) (v : ResultVar) (u : Value) : Prop :=
  match v with
  | .tmp t => tmps.getD t undef = u
  | .cell a t => ∃ g, tmps.getD a undef = .pointer (some ⟨g, 0, none⟩) ∧ (loadVar t ⟨g, 0, none⟩).run P w = .ok u w

def rvSem (tmps : Array Value) : ResultVar → Sem Value
  | .tmp t => pure (tmps.getD t undef)
  | .cell a t => do loadVar t (← asAddr (tmps.getD a undef))

theorem results_eq (fn : Func) (tmps : Array Value) : results fn tmps = (do let vs ← fn.results.mapM (rvSem tmps); pure (if h : vs.size = 1 then vs[0] else .tuple vs)) := by
  unfold results
  congr 2

theorem run_rv {w : World} {tmps : Array Value} {v : ResultVar} {u : Value} (h : rvVal P w tmps v u) : (rvSem tmps v).run P w = .ok u w := by
  cases v with
  | tmp t => simp only [rvVal] at h; simp only [rvSem, Sem.run_pure, h]
  | cell a t =>
    obtain ⟨g, h1, h2⟩ := h
    simp only [rvSem, Sem.run_bind, h1, asAddr, Sem.run_pure, Result.andThen_ok, h2]

def rvVals (P : Program) (w : World) (tmps : Array Value) : List ResultVar → List Value → Prop
  | [], [] => True
  | v :: vs, u :: us => rvVal P w tmps v u ∧ rvVals P w tmps vs us
  | _, _ => False

theorem results_run {w : World} {tmps : Array Value} {fn : Func} {vars : List ResultVar} {us : List Value} (hf : fn.results = vars.toArray) (h3 : vars.length ≤ 4) (h : rvVals P w tmps vars us) :
    (results fn tmps).run P w = .ok (mkRet us) w := by
  match vars, us, h with
  | [], [], _ => rw [results_eq]; simp [hf, mkRet]
  | [v], [u], h =>
    have h1 := run_rv h.1
    rw [results_eq]
    simp [hf, mkRet, h1]
  | [v, v2], [u, u2], h =>
    have h1 := run_rv h.1
    have h2 := run_rv h.2.1
    rw [results_eq]
    simp [hf, mkRet, h1, h2]
  | [v, v2, v3], [u, u2, u3], h =>
    have h1 := run_rv h.1
    have h2 := run_rv h.2.1
    have h3' := run_rv h.2.2.1
    rw [results_eq]
    simp [hf, mkRet, h1, h2, h3']
  | [v, v2, v3, v4], [u, u2, u3, u4], h =>
    have h1 := run_rv h.1
    have h2 := run_rv h.2.1
    have h3' := run_rv h.2.2.1
    have h4 := run_rv h.2.2.2.1
    rw [results_eq]
    simp [hf, mkRet, h1, h2, h3', h4]
  | _ :: _ :: _ :: _ :: _ :: _, _, _ => simp at h3

theorem retS_vals {l : SL} {m : OL} {f : Nat → Nat} {cx : Cx} {V : Nat → Prop} {a : Act} {w : World} {ρ : Nat → Value} {Z : Nat → Prop} (hg : Good cx (lk .dead l) (lk .gone m) V a w ρ Z) :
    ∀ {vars : List ResultVar} {rs : List AR}, RetS P l m f vars rs → ∃ us, rvVals P w a.tmps vars us ∧ DRL (fun t => ρ (f t)) Z w rs us
  | [], [], _ => ⟨[], trivial, trivial⟩
  | .tmp t :: vars, r :: rs, h => by
    obtain ⟨us, h1, h2⟩ := retS_vals hg h.2
    have h3 := hg.slot t
    rw [show lk .dead l t = .r (r.sub f) from h.1] at h3
    exact ⟨_ :: us, ⟨rfl, h1⟩, DR.sub h3, h2⟩
  | .cell b t :: vars, r :: rs, h => by
    obtain ⟨us, h1, h2⟩ := retS_vals hg h.2
    obtain ⟨u, e, cells, h3, h4, h5⟩ := h.1
    have h6 := hg.slot b
    rw [h3] at h6
    obtain ⟨g, o, h7, h8⟩ := h6
    have h9 := hg.obj u
    rw [h4] at h9
    obtain ⟨g', vs, h10, h11, h12⟩ := h9
    rw [h10] at h7
    cases h7
    rcases h5 with ⟨h5, h13⟩ | ⟨h5, c, rfl, h13⟩
    · have hst : TyStr P t cells.length := ⟨h5⟩
      obtain ⟨a1, a2⟩ := run_isAgg_str (P := P) (w := w) hst
      have hl : (loadCells ⟨g, 0, none⟩ cells.length).run P w = .ok vs.toArray w := by
        rw [← h12.len]
        exact run_loadCells_list w ⟨g, 0, none⟩ vs fun k u hu => by
          rw [addr_add, World.cell?, h11]; simpa using hu
      refine ⟨.agg vs.toArray :: us, ⟨⟨g, by simpa using h8, by simp [loadVar, a1, a2, hl]⟩, h1⟩, ?_, h2⟩
      refine DR.sub (x := r) (f := f) ?_
      rw [h13]
      exact ⟨vs, rfl, h12⟩
    · have hot : TyOne P t := ⟨h5⟩
      match vs, h12 with
      | [v], h12 =>
        refine ⟨v :: us, ⟨⟨g, by simpa using h8, ?_⟩, h1⟩, ?_, h2⟩
        · simp [loadVar, run_isAgg_one hot, World.cell?, h11]
        · refine DR.sub (x := r) (f := f) ?_
          rw [h13]
          exact h12.1
  | [], _ :: _, h => h.elim
  | _ :: _, [], h => h.elim

theorem leo_obL {m : OL} {f : Nat → Nat} {all : List OB} (h : LeO m f (obL 0 all)) (i : Nat) : obAt all i = .gone ∨ lk .gone m (f i) = (obAt all i).sub f := by
  have := leo_at h i
  rwa [lk_obL0] at this

/-- A walk of the body gives the contract. -/
theorem con_of_aw {f : FuncId} {fn : Func} {c : Code} {N : Nat} {vars : List ResultVar} {args : List AR} {obs : List OB} {Post : List AR → List OB → Prop} (l0 : SL) (m0 : OL) (n0 : Nat)
    (hf : P.funcs[f]? = some fn) (hok : fnOk P f = true) (hb : fn.body = some c) (hN : fn.ntmps = N) (hv : fn.results = vars.toArray) (hv4 : vars.length ≤ 4) (hargs : Nat.ble args.length N = true) (hl0 : argL 0 args = l0) (hm0 : obL 0 obs = m0) (hn0 : obs.length = n0)
    (htags : ((argL 0 args).all (fun p => p.2.okTags obs.length) && obs.all (fun o => o.okTags obs.length)) = true)
    (H : ∀ B M w0 ρ0 Z0, AW P ⟨N, B, M, w0, n0, ρ0, Z0⟩ c (RetG P vars n0 Post) l0 m0 n0) : Con P f args obs Post := by
  subst hl0 hm0 hn0
  have hargs := Nat.le_of_ble_eq_true hargs
  refine ⟨hok, fun w ρ Z vs he => ?_⟩
  have hvl : vs.length = args.length := drl_len he.args
  simp only [Bool.and_eq_true, List.all_eq_true] at htags
  refine calls_of_wp hf hb ?_
  refine Code.wp_mono ?_ (H w.heap.size (Wr obs ρ) w ρ Z _ w ⟨ρ, Z, ?_⟩)
  · rintro e a w' ⟨l, m, n, ⟨hex, rs, all, p, hpost, hlen, hnd, hpl, hpin, htg, hret, hobs⟩, ρ1, Z1, hg⟩
    have main : a.defers = [] ∧ ∃ v, (results fn a.tmps).run P w' = .ok v w' ∧ ∃ rs all us ρ' Z', Post rs all ∧ obs.length ≤ all.length ∧ Ending.returned v = .returned (mkRet us) ∧ Leave w ρ Z obs w' ρ' Z' rs all us := by
      obtain ⟨us, h1, h2⟩ := retS_vals hg hret
      have hr := results_run hv hv4 h1
      simp only [resTags, Bool.and_eq_true] at htg
      simp only [pinB, Bool.and_eq_true, List.all_eq_true] at hpin
      have hlive : ∀ i, (obAt all i).live = true → i < all.length ∧ (lk .gone m (perm p i)).live = true := fun i hi => by
        refine ⟨?_, ?_⟩
        · rcases Nat.lt_or_ge i all.length with h | h
          · exact h
          · simp [obAt, List.getElem?_eq_none h, OB.live] at hi
        · rcases leo_obL hobs i with h | h
          · rw [h] at hi; cases hi
          · rw [h]; cases hob : obAt all i <;> rw [hob] at hi <;> first | rfl | cases hi
      refine ⟨hg.defers, _, hr, rs, all, us, fun t => ρ1 (perm p t), Z1, hpost, hlen, rfl, h2, fun i => ?_, fun i hi => ?_, fun i j g a1 a2 a3 a4 => ?_, fun i g a1 a2 => ?_, ?_, ?_, hg.zlt, htg, hg.os, hg.tape, hg.output, hg.big, hg.old⟩
      · rcases leo_obL hobs i with h | h
        · rw [h]; trivial
        · have := hg.obj (perm p i)
          rw [h] at this
          exact DO.sub this
      · show ρ1 (perm p i) = ρ i
        rw [Nat.eq_of_beq_eq_true (hpin.2 i (List.mem_range.2 hi))]
        exact hg.pin i hi
      · have b1 := hlive i a1
        have b2 := hlive j a2
        exact nodupB_inj hnd i j (by rw [hpl]; exact b1.1) (by rw [hpl]; exact b2.1) (hg.sep _ _ g b1.2 b2.2 a3 a4)
      · exact hg.out (perm p i) g (hlive i a1).2 a2
      · exact hg.zin.1
      · exact hg.zout
    cases e with
    | normal => exact main
    | ret => exact main
    | _ => exact hex.elim
  · refine ⟨?_, rfl, fun t => ?_, fun t => ?_, fun t t' g h1 h2 h3 h4 => ?_, fun t g h1 h2 => ?_, he.zlt, fun t ht => ?_, rfl, rfl, rfl, Nat.le_refl _, fun _ _ _ => rfl, fun _ _ => rfl, fun t ht => ht, ⟨fun _ h => h, he.gl, fun g hg => ⟨he.zlt g hg, fun ⟨i, h1, h2⟩ => he.nz i g h1 h2 hg⟩⟩, fun _ h => .inl h⟩
    · simp [hN, hvl]; omega
    · rw [lk_argL]
      simp only [Nat.zero_le, if_true, Nat.sub_zero]
      by_cases h : t < args.length
      · rw [List.getElem?_eq_getElem h]
        obtain ⟨v, h1, h2⟩ := drl_at he.args (List.getElem?_eq_getElem h)
        have hlt : t < vs.length := by omega
        have e : (vs.toArray ++ Array.replicate (fn.ntmps - vs.toArray.size) undef).getD t undef = v := by
          rw [Array.getD_eq_getD_getElem?, Array.getElem?_append_left (by simpa using hlt)]
          simp [h1]
        rw [e]
        exact h2
      · rw [List.getElem?_eq_none (by omega)]
        trivial
    · rw [lk_obL0]; exact he.objs t
    · rw [lk_obL0] at h1 h2; exact he.sep t t' g h1 h2 h3 h4
    · rw [lk_obL0] at h1; exact ⟨he.nz t g h1 h2, .inr ⟨t, h1, h2⟩⟩
    · refine ⟨?_, fun s hs => ?_, fun s hs => ?_⟩
      · rw [lk_obL0, obAt, List.getD_eq_getElem?_getD, List.getElem?_eq_none ht]; rfl
      · have : ∀ s, ∀ t ∈ (lk AV.dead (argL 0 args) s).tags, t < obs.length := lk_all (p := fun x : AV => ∀ t ∈ x.tags, t < obs.length) (by simp [AV.tags]) fun x hx t ht => by
          have := htags.1 x hx
          simp only [AV.okTags, List.all_eq_true] at this
          exact blt_lt (this t ht)
        exact absurd (this s t hs) (by omega)
      · rw [lk_obL0] at hs
        have h1 : obAt obs s ∈ obs ∨ obAt obs s = .gone := by
          rcases Nat.lt_or_ge s obs.length with h | h
          · left; rw [obAt, List.getD_eq_getElem?_getD, List.getElem?_eq_getElem h]; exact List.getElem_mem h
          · right; rw [obAt, List.getD_eq_getElem?_getD, List.getElem?_eq_none h]; rfl
        rcases h1 with h1 | h1
        · have := htags.2 _ h1
          simp only [OB.okTags, List.all_eq_true] at this
          have := blt_lt (this t hs)
          omega
        · rw [h1] at hs; cases hs

/-- The caller's name of the callee's tag i: q: of what it hands over; the next free ones for what is new. -/
def cpi (q : List Nat) (n i : Nat) : Nat := q.getD i (n + i - q.length)
def obLM (f : Nat → Nat) (k : Nat) : List OB → OL
  | [] => []
  | o :: os => (f k, o.sub f) :: obLM f (k + 1) os

theorem D1.unsub {ρ ρ' : Nat → Value} {Z : Nat → Prop} {w : World} {f : Nat → Nat} {x : A1} {v : Value} (hr : ∀ t, x.tag = some t → ρ' (f t) = ρ t) (h : D1 ρ Z w x v) : D1 ρ' Z w (x.sub f) v := by
  cases x with
  | c x => exact h
  | own t => exact ⟨by rw [hr t rfl]; exact h.1, h.2⟩
  | ref t o => obtain ⟨g, o', h1, h2⟩ := h; exact ⟨g, o', by rw [hr t rfl]; exact h1, h2⟩
  | el t wd i k => obtain ⟨g, o', h1, h2⟩ := h; exact ⟨g, o', by rw [hr t rfl]; exact h1, h2⟩
  | imm xs => exact h
  | fn g r caps =>
    cases r with
    | none => exact h
    | some p => obtain ⟨fs, cs, h1, ⟨g, o, h2, h3⟩, h4⟩ := h; exact ⟨fs, cs, h1, ⟨g, o, by rw [hr p.1 rfl]; exact h2, h3⟩, h4⟩
  | pr p => exact h
theorem D1L.unsub {ρ ρ' : Nat → Value} {Z : Nat → Prop} {w : World} {f : Nat → Nat} : ∀ {xs : List A1} {us : List Value}, (∀ x ∈ xs, ∀ t, x.tag = some t → ρ' (f t) = ρ t) → D1L ρ Z w xs us → D1L ρ' Z w (xs.map (·.sub f)) us
  | [], [], _, _ => trivial
  | x :: xs, u :: us, hr, h => ⟨D1.unsub (hr x (.head _)) h.1, D1L.unsub (fun y hy => hr y (.tail _ hy)) h.2⟩
  | [], _ :: _, _, h => h.elim
  | _ :: _, [], _, h => h.elim
theorem DR.unsub {ρ ρ' : Nat → Value} {Z : Nat → Prop} {w : World} {f : Nat → Nat} {x : AR} {v : Value} (hr : ∀ t ∈ x.tags, ρ' (f t) = ρ t) (h : DR ρ Z w x v) : DR ρ' Z w (x.sub f) v := by
  cases x with
  | one x => exact D1.unsub (x := x) (fun t ht => hr t (by simp [AR.tags, ht])) h
  | agg xs =>
    obtain ⟨us, h1, h2⟩ := h
    exact ⟨us, h1, D1L.unsub (fun x hx t ht => hr t (by simp only [AR.tags, List.mem_flatMap]; exact ⟨x, hx, by simp [ht]⟩)) h2⟩
theorem DRL.unsub {ρ ρ' : Nat → Value} {Z : Nat → Prop} {w : World} {f : Nat → Nat} : ∀ {xs : List AR} {us : List Value}, (∀ x ∈ xs, ∀ t ∈ x.tags, ρ' (f t) = ρ t) → DRL ρ Z w xs us → DRL ρ' Z w (xs.map (·.sub f)) us
  | [], [], _, _ => trivial
  | x :: xs, u :: us, hr, h => ⟨DR.unsub (hr x (.head _)) h.1, DRL.unsub (fun y hy => hr y (.tail _ hy)) h.2⟩
  | [], _ :: _, _, h => h.elim
  | _ :: _, [], _, h => h.elim
theorem DO.unsub {ρ ρ' : Nat → Value} {Z : Nat → Prop} {w : World} {f : Nat → Nat} {t : Nat} {ob : OB} (ht : ρ' (f t) = ρ t) (hr : ∀ s ∈ ob.tags, ρ' (f s) = ρ s) (h : DO ρ Z w t ob) : DO ρ' Z w (f t) (ob.sub f) := by
  cases ob with
  | gone => trivial
  | row wd e rows => simpa only [OB.sub, DO, ht] using h
  | froz wd rows => simpa only [OB.sub, DO, ht] using h
  | raw o => simpa only [OB.sub, DO, ht] using h
  | box e cells =>
    obtain ⟨g, us, h1, h2, h3⟩ := h
    exact ⟨g, us, by rw [ht]; exact h1, h2, D1L.unsub (fun x hx t' ht' => hr t' (by simp only [OB.tags, List.mem_flatMap]; exact ⟨x, hx, by simp [ht']⟩)) h3⟩
  | gen ok cells =>
    obtain ⟨g, o, us, h1, h2, h3, h4⟩ := h
    exact ⟨g, o, us, by rw [ht]; exact h1, h2, by rw [ht]; exact h3, D1L.unsub (fun x hx t' ht' => hr t' (by simp only [OB.tags, List.mem_flatMap]; exact ⟨x, hx, by simp [ht']⟩)) h4⟩

theorem OB.live_sub (f : Nat → Nat) (o : OB) : (o.sub f).live = o.live := by cases o <;> rfl
theorem A1.tags_sub (f : Nat → Nat) (x : A1) : (x.sub f).tag.toList = x.tag.toList.map f := by
  cases x with
  | fn g r caps => cases r <;> rfl
  | _ => rfl
theorem AR.tags_sub (f : Nat → Nat) (x : AR) : (x.sub f).tags = x.tags.map f := by
  cases x with
  | one x => simp [AR.sub, AR.tags, A1.tags_sub]
  | agg xs =>
    simp only [AR.sub, AR.tags]
    induction xs with
    | nil => rfl
    | cons x xs ih => simp [A1.tags_sub] at ih ⊢; rw [ih]
theorem OB.tags_sub (f : Nat → Nat) (o : OB) : (o.sub f).tags = o.tags.map f := by
  cases o with
  | box e cells => exact AR.tags_sub f (.agg cells)
  | gen ok cells => exact AR.tags_sub f (.agg cells)
  | _ => rfl

theorem lkf_obLM (O : Nat → OB) (f : Nat → Nat) : ∀ (all : List OB) (k t : Nat), (∀ i j, i < k + all.length → j < k + all.length → k ≤ i → k ≤ j → f i = f j → i = j) →
    (∃ i, k ≤ i ∧ i < k + all.length ∧ f i = t ∧ lkf O (obLM f k all) t = (all.getD (i - k) .gone).sub f) ∨ ((∀ i, k ≤ i → i < k + all.length → f i ≠ t) ∧ lkf O (obLM f k all) t = O t)
  | [], k, t, _ => .inr ⟨fun i h1 h2 => by simp at h2; omega, rfl⟩
  | o :: os, k, t, hinj => by
    simp only [obLM, lkf]
    by_cases e : f k = t
    · subst e
      left
      refine ⟨k, Nat.le_refl _, by simp, rfl, ?_⟩
      simp [beq_self]
    · rw [beq_ne e, cond_false]
      rcases lkf_obLM O f os (k + 1) t (fun i j h1 h2 h3 h4 h5 => hinj i j (by simp; omega) (by simp; omega) (by omega) (by omega) h5) with ⟨i, h1, h2, h3, h4⟩ | ⟨h1, h2⟩
      · left
        refine ⟨i, by omega, by simp; omega, h3, ?_⟩
        rw [h4]
        have : i - k = (i - (k + 1)) + 1 := by omega
        rw [this, List.getD_cons_succ]
      · right
        refine ⟨fun i h3 h4 h5 => ?_, h2⟩
        by_cases hik : i = k
        · subst hik; exact e h5
        · exact h1 i (by omega) (by simp at h4; omega) h5
end
end Go.Proofs.Ytokhfcfnhgianaa
