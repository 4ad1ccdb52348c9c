/- Texts: Eng12 Eng13 -/
import Derived.Test.YtokhfcfnhgianaaCG5
import Derived.Orders
/-
  Regions that draw their order: operations that don't touch what others touch, but in the order that the edges give, may go in any order.
-/
namespace Go.Proofs.Ytokhfcfnhgianaa
open Go.RowKit
set_option linter.unusedVariables false
set_option linter.unusedSimpArgs false

structure Ent where
  R : List (Operand × AV)
  RO : OL
  NT : List Nat
  U : SL
  UO : OL

structure Keys where
  rs : List Nat
  ws : List Nat
  ro : List Nat
  wo : List Nat
  nt : List Nat

def rtmps : List (Operand × AV) → List Nat
  | [] => []
  | (.tmp t, _) :: r => t :: rtmps r
  | _ :: r => rtmps r
def Ent.keys (E : Ent) : Keys := ⟨rtmps E.R, E.U.map (·.1), E.RO.map (·.1), E.UO.map (·.1), E.NT⟩

def overlap (a b : List Nat) : Bool := a.any fun x => b.any fun y => Nat.beq x y
def Keys.conflict (a b : Keys) : Bool := overlap a.ws b.rs || overlap a.ws b.ws || overlap a.rs b.ws || overlap a.wo b.ro || overlap a.wo b.wo || overlap a.ro b.wo

/-- What stands before an operation, as bits. -/
def bitsOf (A : List Nat) (es : List Edge) : Nat := es.foldr (fun e s => cond (Region.binds .any e) (s ||| (2 ^ e.on ||| A.getD e.on 0)) s) 0
def ancs (acc : List Nat) : List Oper → List Nat
  | [] => acc
  | o :: os => ancs (acc ++ [bitsOf acc o.after.toList]) os

def ancOk (A : List Nat) (ops : List Oper) : Bool := (List.range ops.length).all fun j => match ops[j]? with
  | some o => Nat.beq (A.getD j 0) (bitsOf A o.after.toList) && o.after.toList.all fun e => !Region.binds .any e || Nat.blt e.on j
  | none => true
def pairsOk (A : List Nat) (K : List Keys) : Bool := (List.range K.length).all fun j => (List.range j).all fun i => match K[i]?, K[j]? with
  | some a, some b => !a.conflict b || (A.getD j 0).testBit i
  | _, _ => true
def chk (K : List Keys) (ops : List Oper) : Bool := Nat.beq K.length ops.length && ancOk (ancs [] ops) ops && pairsOk (ancs [] ops) K && K.all fun k => k.nt.all fun t => k.wo.any fun s => Nat.beq s t

theorem bitsOf_mem {A : List Nat} {i : Nat} : ∀ {es : List Edge}, (bitsOf A es).testBit i = true → ∃ e ∈ es, Region.binds .any e = true ∧ (e.on = i ∨ (A.getD e.on 0).testBit i = true)
  | [], h => by simp [bitsOf] at h
  | e :: es, h => by
    simp only [bitsOf, List.foldr_cons] at h
    cases hb : Region.binds .any e with
    | false =>
      rw [hb, cond_false] at h
      obtain ⟨e', h1, h2⟩ := bitsOf_mem (es := es) h
      exact ⟨e', .tail _ h1, h2⟩
    | true =>
      rw [hb, cond_true, Nat.testBit_or, Nat.testBit_or, Nat.testBit_two_pow] at h
      simp only [Bool.or_eq_true, decide_eq_true_eq] at h
      rcases h with h | h | h
      · obtain ⟨e', h1, h2⟩ := bitsOf_mem (es := es) h
        exact ⟨e', .tail _ h1, h2⟩
      · exact ⟨e, .head _, hb, .inl h⟩
      · exact ⟨e, .head _, hb, .inr h⟩

/-- A set of operations that holds with each what it waits for. -/
def Closed (ops : List Oper) (L : Nat → Bool) : Prop := ∀ j o, L j = true → ops[j]? = some o → ∀ e ∈ o.after, Region.binds .any e = true → L e.on = true

theorem closed_anc {A : List Nat} {ops : List Oper} (hA : ancOk A ops = true) {L : Nat → Bool} (hL : Closed ops L) : ∀ (j : Nat) (o : Oper), ops[j]? = some o → (∀ e ∈ o.after, Region.binds .any e = true → L e.on = true) →
    ∀ i, (A.getD j 0).testBit i = true → L i = true := by
  intro j
  induction j using Nat.strongRecOn with
  | _ j ih =>
    intro o ho hdir i hi
    have hlt : j < ops.length := (List.getElem?_eq_some_iff.1 ho).1
    simp only [ancOk, List.all_eq_true] at hA
    have h1 := hA j (List.mem_range.2 hlt)
    rw [ho] at h1
    simp only [Bool.and_eq_true, List.all_eq_true] at h1
    rw [Nat.eq_of_beq_eq_true h1.1] at hi
    obtain ⟨e, he, hb, h2⟩ := bitsOf_mem hi
    have hea : e ∈ o.after := by simpa using he
    have hle := hdir e hea hb
    rcases h2 with rfl | h2
    · exact hle
    · have h3 := h1.2 e he
      rw [hb] at h3
      have hej : e.on < j := blt_lt (by simpa using h3)
      have hoe : ops[e.on]? = some (ops[e.on]'(by omega)) := List.getElem?_eq_getElem (by omega)
      exact ih e.on hej _ hoe (fun e' he' hb' => hL e.on _ hle hoe e' he' hb') i h2

def maskF {α β : Type} (upd : (Nat → α) → β → (Nat → α)) (L : Nat → Bool) : Nat → List β → (Nat → α) → (Nat → α)
  | _, [], S => S
  | k, E :: Es, S => maskF upd L (k + 1) Es (cond (L k) (upd S E) S)
def maskS (L : Nat → Bool) (k : Nat) (Es : List Ent) (S : Nat → AV) : Nat → AV := maskF (fun S E => lkf S E.U) L k Es S
def maskO (L : Nat → Bool) (k : Nat) (Es : List Ent) (O : Nat → OB) : Nat → OB := maskF (fun S E => lkf S E.UO) L k Es O
def maskV (L : Nat → Bool) (Es : List Ent) (V : Nat → Prop) : Nat → Prop := fun t => V t ∧ ∀ i E, Es[i]? = some E → L i = true → t ∉ E.NT

theorem lkf_notin {α : Type} (f : Nat → α) {t : Nat} : ∀ {u : List (Nat × α)}, t ∉ u.map (·.1) → lkf f u t = f t
  | [], _ => rfl
  | (k, x) :: u, h => by
    simp only [List.map_cons, List.mem_cons, not_or] at h
    show cond (Nat.beq k t) x (lkf f u t) = f t
    rw [beq_ne (Ne.symm h.1), cond_false, lkf_notin f h.2]
theorem lkf_in {α : Type} (f g : Nat → α) {t : Nat} : ∀ {u : List (Nat × α)}, t ∈ u.map (·.1) → lkf f u t = lkf g u t
  | (k, x) :: u, h => by
    show cond (Nat.beq k t) x (lkf f u t) = cond (Nat.beq k t) x (lkf g u t)
    by_cases e : k = t
    · subst e; rw [beq_self]; rfl
    · rw [beq_ne e, cond_false, cond_false]
      refine lkf_in f g ?_
      simp only [List.map_cons, List.mem_cons] at h
      exact h.resolve_left (Ne.symm e)

section
variable {α : Type} {U : Ent → List (Nat × α)}
/-- Masks that agree on the writers of t give one value at t. -/
theorem mask_agree {L L' : Nat → Bool} {t : Nat} : ∀ {Es : List Ent} {k : Nat} {S S' : Nat → α}, S t = S' t → (∀ i E, Es[i]? = some E → t ∈ (U E).map (·.1) → L (k + i) = L' (k + i)) →
    maskF (fun S E => lkf S (U E)) L k Es S t = maskF (fun S E => lkf S (U E)) L' k Es S' t
  | [], _, _, _, h, _ => h
  | E :: Es, k, S, S', h, hw => by
    simp only [maskF]
    refine mask_agree (Es := Es) (k := k + 1) ?_ fun i E' hi ht => by
      have := hw (i + 1) E' (by simpa using hi) ht
      have e : k + 1 + i = k + (i + 1) := by omega
      rw [e]; exact this
    by_cases ht : t ∈ (U E).map (·.1)
    · have := hw 0 E rfl ht
      rw [Nat.add_zero] at this
      rw [this]
      cases L' k with
      | false => exact h
      | true => exact lkf_in S S' ht
    · cases L k <;> cases L' k <;> simp only [cond_true, cond_false]
      · exact h
      · rw [lkf_notin _ ht]; exact h
      · rw [lkf_notin _ ht]; exact h
      · rw [lkf_notin _ ht, lkf_notin _ ht]; exact h

theorem mask_append (L : Nat → Bool) : ∀ (A B : List Ent) (k : Nat) (S : Nat → α), maskF (fun S E => lkf S (U E)) L k (A ++ B) S = maskF (fun S E => lkf S (U E)) L (k + A.length) B (maskF (fun S E => lkf S (U E)) L k A S)
  | [], B, k, S => rfl
  | E :: A, B, k, S => by
    simp only [List.cons_append, maskF, List.length_cons]
    rw [mask_append L A B (k + 1)]
    congr 1; omega

theorem mask_none {L : Nat → Bool} {t : Nat} {Es : List Ent} {k : Nat} {S : Nat → α} (h : ∀ i E, Es[i]? = some E → t ∈ (U E).map (·.1) → L (k + i) = false) : maskF (fun S E => lkf S (U E)) L k Es S t = S t := by
  rw [mask_agree (L' := fun _ => false) (S' := S) rfl (fun i E hi ht => h i E hi ht)]
  clear h
  induction Es generalizing k with
  | nil => rfl
  | cons E Es ih => simp only [maskF, cond_false]; exact ih

/-- One more operation is done. -/
theorem mask_step {L : Nat → Bool} {Es : List Ent} {j : Nat} {E : Ent} {S : Nat → α} (hj : Es[j]? = some E) (hnot : L j = false)
    (hlater : ∀ i E', j < i → Es[i]? = some E' → (∃ t, t ∈ (U E).map (·.1) ∧ t ∈ (U E').map (·.1)) → L i = false) :
    maskF (fun S E => lkf S (U E)) (fun i => Nat.beq i j || L i) 0 Es S = lkf (maskF (fun S E => lkf S (U E)) L 0 Es S) (U E) := by
  funext t
  have hlt : j < Es.length := (List.getElem?_eq_some_iff.1 hj).1
  have hE : Es[j] = E := (List.getElem?_eq_some_iff.1 hj).2
  by_cases ht : t ∈ (U E).map (·.1)
  · have e : Es = Es.take j ++ E :: Es.drop (j + 1) := by
      rw [← hE, List.getElem_cons_drop, List.take_append_drop]
    have h1 : maskF (fun S E => lkf S (U E)) (fun i => Nat.beq i j || L i) 0 Es S t = lkf (maskF (fun S E => lkf S (U E)) L 0 Es S) (U E) t := by
      conv => lhs; rw [e]
      rw [mask_append]
      simp only [maskF, Nat.zero_add, List.length_take, Nat.min_eq_left (Nat.le_of_lt hlt), beq_self, Bool.true_or, cond_true]
      rw [mask_none (fun i E' hi hw => ?_)]
      · exact lkf_in _ _ ht
      · rw [beq_ne (by omega), Bool.false_or]
        refine hlater _ E' (by omega) ?_ ⟨t, ht, hw⟩
        rw [List.getElem?_drop] at hi
        rw [← hi]
    exact h1
  · rw [lkf_notin _ ht]
    refine mask_agree rfl fun i E' hi hw => ?_
    rw [Nat.zero_add]
    by_cases e : i = j
    · subst e
      rw [hj] at hi
      cases hi
      exact absurd hw ht
    · rw [beq_ne e, Bool.false_or]
end

def EntOK (P : Program) (ops : Array Oper) (o : Oper) (E : Ent) : Prop :=
  ∀ (cx : Cx) (S : Nat → AV) (O : Nat → OB) (V : Nat → Prop) (a : Act) (w : World), AgL S E.R → OgL O E.RO → VgL V E.NT → UgL cx.N E.U → Inv cx S O V a w →
    ∀ (K : Act → World → Prop) (Q : Exit → Act → World → Prop), (∀ a' w', Inv cx (lkf S E.U) (lkf O E.UO) (fun t => V t ∧ t ∉ E.NT) a' w' → K a' w') →
      if Region.wanted o (yielded ops a.tmps) then o.wp P a w K Q else K (a.put o.dst undef) w

inductive Lex (P : Program) (ops : Array Oper) (N : Nat) : List Oper → List Ent → SL → OL → Nat → SL → OL → Nat → Prop where
  | nil {l : SL} {m : OL} {n : Nat} : Lex P ops N [] [] l m n l m n
  | cons {o : Oper} {rest : List Oper} {E : Ent} {Es : List Ent} {l l2 : SL} {m m2 : OL} {n n' n2 : Nat} : EntOK P ops o E → AgL (lk .dead l) E.R → OgL (lk .gone m) E.RO → (∀ t ∈ E.NT, n ≤ t ∧ t < n') → n ≤ n' → UgL N E.U →
      Lex P ops N rest Es (E.U ++ l) (E.UO ++ m) n' l2 m2 n2 → Lex P ops N (o :: rest) (E :: Es) l m n l2 m2 n2

theorem Lex.len {P : Program} {ops : Array Oper} {N : Nat} {todo : List Oper} {Es : List Ent} {l l2 : SL} {m m2 : OL} {n n2 : Nat} (h : Lex P ops N todo Es l m n l2 m2 n2) : Es.length = todo.length ∧ n ≤ n2 := by
  induction h with
  | nil => exact ⟨rfl, Nat.le_refl _⟩
  | cons _ _ _ _ h5 _ _ ih => exact ⟨by simp [ih.1], Nat.le_trans h5 ih.2⟩

/-- What the walk in the text's order shows of operation j. -/
theorem Lex.at {P : Program} {ops : Array Oper} {N : Nat} {todo : List Oper} {Es : List Ent} {l l2 : SL} {m m2 : OL} {n n2 : Nat} (h : Lex P ops N todo Es l m n l2 m2 n2) :
    ∀ (j : Nat) (o : Oper) (E : Ent), todo[j]? = some o → Es[j]? = some E →
      EntOK P ops o E ∧ UgL N E.U ∧ AgL (maskS (fun i => Nat.blt i j) 0 Es (lk .dead l)) E.R ∧ OgL (maskO (fun i => Nat.blt i j) 0 Es (lk .gone m)) E.RO ∧ (∀ t ∈ E.NT, n ≤ t) ∧ (∀ t ∈ E.NT, ∀ i E', i < j → Es[i]? = some E' → t ∉ E'.NT) := by
  induction h with
  | nil => intro j o E h; simp at h
  | @cons o rest E Es l l2 m m2 n n' n2 h1 h2 h3 h4 h5 h6 h7 ih =>
    have hfalse : ∀ {α : Type} (U : Ent → List (Nat × α)) (Es : List Ent) (k : Nat) (S : Nat → α), maskF (fun S E => lkf S (U E)) (fun i => Nat.blt i 0) k Es S = S := by
      intro α U Es
      induction Es with
      | nil => intro k S; rfl
      | cons E Es ih => intro k S; simp only [maskF]; exact ih _ _
    intro j o' E' hj hE
    cases j with
    | zero =>
      cases hj; cases hE
      refine ⟨h1, h6, ?_, ?_, fun t ht => (h4 t ht).1, fun t ht i E' hi => by omega⟩
      · show AgL (maskF _ _ _ _ _) _
        rw [show maskF (fun S E => lkf S (Ent.U E)) (fun i => Nat.blt i 0) 0 (E :: Es) (lk .dead l) = lk .dead l from hfalse _ _ _ _]
        exact h2
      · show OgL (maskF _ _ _ _ _) _
        rw [show maskF (fun S E => lkf S (Ent.UO E)) (fun i => Nat.blt i 0) 0 (E :: Es) (lk .gone m) = lk .gone m from hfalse _ _ _ _]
        exact h3
    | succ j =>
      obtain ⟨a1, a2, a3, a4, a5, a6⟩ := ih j o' E' (by simpa using hj) (by simpa using hE)
      have hshift : ∀ {α : Type} (U : Ent → List (Nat × α)) (Es : List Ent) (k : Nat) (S : Nat → α), maskF (fun S E => lkf S (U E)) (fun i => Nat.blt i (j + 1)) (k + 1) Es S = maskF (fun S E => lkf S (U E)) (fun i => Nat.blt i j) k Es S := by
        intro α U Es
        induction Es with
        | nil => intro k S; rfl
        | cons E Es ih =>
          intro k S
          simp only [maskF]
          have e : Nat.blt (k + 1) (j + 1) = Nat.blt k j := by simp [Nat.blt, Nat.ble]
          rw [e, ih]
      refine ⟨a1, a2, ?_, ?_, fun t ht => Nat.le_trans h5 (a5 t ht), fun t ht i E'' hi hE'' => ?_⟩
      · rw [← lkf_lk] at a3
        show AgL (maskF _ _ _ (E :: Es) _) _
        simp only [maskF]
        rw [show Nat.blt 0 (j + 1) = true from by simp [Nat.blt, Nat.ble], cond_true]
        rw [show maskF (fun S E => lkf S (Ent.U E)) (fun i => Nat.blt i (j + 1)) (0 + 1) Es (lkf (lk .dead l) E.U) = maskF (fun S E => lkf S (Ent.U E)) (fun i => Nat.blt i j) 0 Es (lkf (lk .dead l) E.U) from hshift _ _ _ _]
        exact a3
      · rw [← lkf_lk] at a4
        show OgL (maskF _ _ _ (E :: Es) _) _
        simp only [maskF]
        rw [show Nat.blt 0 (j + 1) = true from by simp [Nat.blt, Nat.ble], cond_true]
        rw [show maskF (fun S E => lkf S (Ent.UO E)) (fun i => Nat.blt i (j + 1)) (0 + 1) Es (lkf (lk .gone m) E.UO) = maskF (fun S E => lkf S (Ent.UO E)) (fun i => Nat.blt i j) 0 Es (lkf (lk .gone m) E.UO) from hshift _ _ _ _]
        exact a4
      · cases i with
        | zero =>
          cases hE''
          intro hm
          have := h4 t hm
          have := a5 t ht
          omega
        | succ i => exact a6 t ht i E'' (by omega) (by simpa using hE'')

theorem Lex.fin {P : Program} {ops : Array Oper} {N : Nat} {todo : List Oper} {Es : List Ent} {l l2 : SL} {m m2 : OL} {n n2 : Nat} (h : Lex P ops N todo Es l m n l2 m2 n2) (L : Nat → Bool) :
    ∀ k, (∀ i, i < Es.length → L (k + i) = true) → maskS L k Es (lk .dead l) = lk .dead l2 ∧ maskO L k Es (lk .gone m) = lk .gone m2 ∧ ∀ t, n2 ≤ t → n ≤ t ∧ ∀ E ∈ Es, t ∉ E.NT := by
  induction h with
  | nil => intro k _; exact ⟨rfl, rfl, fun t ht => ⟨ht, by simp⟩⟩
  | @cons o rest E Es l l2 m m2 n n' n2 h1 h2 h3 h4 h5 h6 h7 ih =>
    intro k hL
    obtain ⟨a1, a2, a3⟩ := ih (k + 1) (fun i hi => by have := hL (i + 1) (by simp; omega); have e : k + 1 + i = k + (i + 1) := (by omega); rw [e]; exact this)
    have hk : L k = true := by simpa using hL 0 (by simp)
    rw [← lkf_lk] at a1 a2
    refine ⟨?_, ?_, fun t ht => ⟨Nat.le_trans h5 (a3 t ht).1, fun E' hE' => ?_⟩⟩
    · show maskF _ _ _ (E :: Es) _ = _
      simp only [maskF, hk, cond_true]
      exact a1
    · show maskF _ _ _ (E :: Es) _ = _
      simp only [maskF, hk, cond_true]
      exact a2
    · cases hE' with
      | head => exact fun hm => by have := (h4 t hm).2; have := (a3 t ht).1; omega
      | tail _ hE' => exact (a3 t ht).2 E' hE'

theorem agl_congr {S S' : Nat → AV} : ∀ {R : List (Operand × AV)}, (∀ t ∈ rtmps R, S t = S' t) → AgL S R → AgL S' R
  | [], _, _ => trivial
  | (.tmp t, v) :: R, h, hr => ⟨by
      have h1 : S t = v := hr.1
      show S' t = v
      rw [← h t (by simp [rtmps])]; exact h1, agl_congr (fun t ht => h t (by simp [rtmps, ht])) hr.2⟩
  | (.const c, v) :: R, h, hr => ⟨hr.1, agl_congr (fun t ht => h t (by simpa [rtmps] using ht)) hr.2⟩
  | (.func f, v) :: R, h, hr => ⟨hr.1, agl_congr (fun t ht => h t (by simpa [rtmps] using ht)) hr.2⟩
  | (.global g, v) :: R, h, hr => ⟨hr.1, agl_congr (fun t ht => h t (by simpa [rtmps] using ht)) hr.2⟩
theorem ogl_congr {O O' : Nat → OB} : ∀ {R : OL}, (∀ t ∈ R.map (·.1), O t = O' t) → OgL O R → OgL O' R
  | [], _, _ => trivial
  | (t, v) :: R, h, hr => ⟨by
      have h1 : O t = v := hr.1
      show O' t = v
      rw [← h t (by simp)]; exact h1, ogl_congr (fun t ht => h t (by simp at ht ⊢; exact .inr ht)) hr.2⟩
theorem vgl_of {V : Nat → Prop} : ∀ {NT : List Nat}, (∀ t ∈ NT, V t) → VgL V NT
  | [], _ => trivial
  | t :: NT, h => ⟨h t (.head _), vgl_of fun s hs => h s (.tail _ hs)⟩

theorem overlap_of {a b : List Nat} {t : Nat} (h1 : t ∈ a) (h2 : t ∈ b) : overlap a b = true := by
  simp only [overlap, List.any_eq_true]
  exact ⟨t, h1, t, h2, beq_self t⟩

theorem cnt_lt {p p' : Nat → Bool} {j : Nat} : ∀ {l : List Nat}, (∀ x, p' x = true → p x = true) → j ∈ l → p j = true → p' j = false → l.countP p' < l.countP p
  | [], _, h, _, _ => by cases h
  | x :: l, h, hj, h1, h2 => by
    have hle : ∀ l : List Nat, l.countP p' ≤ l.countP p := fun l => List.countP_mono_left (fun x _ hx => h x hx)
    rw [List.countP_cons, List.countP_cons]
    by_cases e : x = j
    · subst e
      rw [h1, h2]
      have := hle l
      simp; omega
    · have hj' : j ∈ l := by
        cases hj with
        | head => exact absurd rfl e
        | tail _ h => exact h
      have := cnt_lt (l := l) h hj' h1 h2
      have hx : (if p' x = true then 1 else 0) ≤ (if p x = true then 1 else 0) := by
        by_cases hp : p' x = true
        · rw [if_pos hp, if_pos (h x hp)]; exact Nat.le_refl _
        · rw [if_neg hp]; exact Nat.zero_le _
      omega

theorem any_order {P : Program} {cx : Cx} {Q : APost} {ol : List Oper} {Es : List Ent} {l l2 : SL} {m m2 : OL} {n n2 : Nat} (hlex : Lex P ol.toArray cx.N ol Es l m n l2 m2 n2) (hchk : chk (Es.map Ent.keys) ol = true) (hQ : Q .normal l2 m2 n2) :
    ∀ (fuel : Nat) (listed : Array Bool) (a : Act) (w : World), listed.size = ol.length → (List.range ol.length).countP (fun i => !listed.getD i true) ≤ fuel → Closed ol (fun i => listed.getD i false) →
      Inv cx (maskS (fun i => listed.getD i false) 0 Es (lk .dead l)) (maskO (fun i => listed.getD i false) 0 Es (lk .gone m)) (maskV (fun i => listed.getD i false) Es (fun t => n ≤ t)) a w →
      wpAny P .any ol.toArray (conc cx Q) fuel listed a w := by
  have hlen := hlex.len.1
  simp only [chk, Bool.and_eq_true] at hchk
  obtain ⟨⟨⟨_, hA⟩, hP⟩, hnt⟩ := hchk
  have hgetD : ∀ (listed : Array Bool) (i : Nat), i < listed.size → listed.getD i true = listed.getD i false := fun listed i hi => by simp [Array.getD, hi]
  -- everything is done where nothing is ready
  have hdone : ∀ (listed : Array Bool), listed.size = ol.length → Region.ready .any ol.toArray listed = [] → ∀ j, j < ol.length → listed.getD j false = true := by
    intro listed hsz hr j
    induction j using Nat.strongRecOn with
    | _ j ih =>
      intro hj
      rcases hb : listed.getD j false with _ | _
      · exfalso
        have hmem : j ∈ Region.ready .any ol.toArray listed := by
          refine mem_ready.2 ⟨by rw [hgetD listed j (by omega)]; exact hb, ol[j], by simp [hj], fun e he hbind => ?_⟩
          have h1 := hA
          simp only [ancOk, List.all_eq_true] at h1
          have h2 := h1 j (List.mem_range.2 hj)
          rw [List.getElem?_eq_getElem hj] at h2
          simp only [Bool.and_eq_true, List.all_eq_true] at h2
          have h3 := h2.2 e (by simpa using he)
          rw [hbind] at h3
          have h4 : e.on < j := blt_lt (by simpa using h3)
          exact ih e.on h4 (by omega)
        rw [hr] at hmem
        cases hmem
      · rfl
  have hfinal : ∀ (listed : Array Bool) (a : Act) (w : World), listed.size = ol.length → Region.ready .any ol.toArray listed = [] →
      Inv cx (maskS (fun i => listed.getD i false) 0 Es (lk .dead l)) (maskO (fun i => listed.getD i false) 0 Es (lk .gone m)) (maskV (fun i => listed.getD i false) Es (fun t => n ≤ t)) a w → conc cx Q .normal a w := by
    rintro listed a w hsz hr ⟨ρ, Z, hg⟩
    have hall := hdone listed hsz hr
    obtain ⟨a1, a2, a3⟩ := hlex.fin (fun i => listed.getD i false) 0 (fun i hi => by rw [Nat.zero_add]; exact hall i (by omega))
    rw [a1, a2] at hg
    exact ⟨l2, m2, n2, hQ, ρ, Z, hg.weak fun t ht => ⟨(a3 t ht).1, fun i E hi _ => (a3 t ht).2 E (List.mem_of_getElem? hi)⟩⟩
  intro fuel
  induction fuel with
  | zero =>
    intro listed a w hsz hcnt hcl hinv
    have hr : Region.ready .any ol.toArray listed = [] := by
      apply List.eq_nil_iff_forall_not_mem.2
      intro j hj
      obtain ⟨h1, o, ho, _⟩ := mem_ready.1 hj
      have hlt : j < ol.length := by simpa using (Array.getElem?_eq_some_iff.1 ho).1
      have : 0 < (List.range ol.length).countP (fun i => !listed.getD i true) := List.countP_pos_iff.2 ⟨j, List.mem_range.2 hlt, by rw [h1]; rfl⟩
      omega
    exact ⟨hr, hfinal listed a w hsz hr hinv⟩
  | succ fuel ih =>
    intro listed a w hsz hcnt hcl hinv
    refine ⟨fun hr => hfinal listed a w hsz hr hinv, fun j hj => ?_⟩
    obtain ⟨hj1, o, ho, hdir⟩ := mem_ready.1 hj
    have ho' : ol[j]? = some o := by simpa using ho
    have hlt : j < ol.length := (List.getElem?_eq_some_iff.1 ho').1
    have hLj : listed.getD j false = false := by rw [← hgetD listed j (by omega)]; exact hj1
    obtain ⟨E, hE⟩ : ∃ E, Es[j]? = some E := ⟨Es[j]'(by omega), List.getElem?_eq_getElem _⟩
    obtain ⟨b1, b2, b3, b4, b5, b6⟩ := hlex.at j o E ho' hE
    have hanc := closed_anc hA hcl j o ho' hdir
    -- conflicts are decided by the edges
    have hpair : ∀ i k (A B : Ent), i < k → Es[i]? = some A → Es[k]? = some B → A.keys.conflict B.keys = true → ((ancs [] ol).getD k 0).testBit i = true := by
      intro i k A B hik hA' hB' hc
      have hk : k < (Es.map Ent.keys).length := by rw [List.length_map]; exact (List.getElem?_eq_some_iff.1 hB').1
      have h1 := hP
      simp only [pairsOk, List.all_eq_true] at h1
      have h2 := h1 k (List.mem_range.2 hk) i (List.mem_range.2 hik)
      rw [List.getElem?_map, List.getElem?_map, hA', hB'] at h2
      simpa [hc] using h2
    have hearly : ∀ i A, i < j → Es[i]? = some A → A.keys.conflict E.keys = true → listed.getD i false = true := fun i A hi hA' hc => hanc i (hpair i j A E hi hA' hE hc)
    have hlate : ∀ k B, j < k → Es[k]? = some B → E.keys.conflict B.keys = true → listed.getD k false = false := fun k B hk hB' hc => by
      rcases hb : listed.getD k false with _ | _
      · rfl
      · exfalso
        have hklt : k < ol.length := by have := (List.getElem?_eq_some_iff.1 hB').1; omega
        have hok : ol[k]? = some (ol[k]) := List.getElem?_eq_getElem hklt
        have := closed_anc hA hcl k _ hok (hcl k _ hb hok) j (hpair j k E B hk hE hB' hc)
        rw [hLj] at this
        cases this
    have hcf : ∀ {A B : Ent} {t : Nat}, (t ∈ A.U.map (·.1) ∧ t ∈ rtmps B.R) ∨ (t ∈ A.U.map (·.1) ∧ t ∈ B.U.map (·.1)) ∨ (t ∈ rtmps A.R ∧ t ∈ B.U.map (·.1)) ∨ (t ∈ A.UO.map (·.1) ∧ t ∈ B.RO.map (·.1)) ∨ (t ∈ A.UO.map (·.1) ∧ t ∈ B.UO.map (·.1)) ∨ (t ∈ A.RO.map (·.1) ∧ t ∈ B.UO.map (·.1)) → A.keys.conflict B.keys = true := by
      intro A B t h
      simp only [Keys.conflict, Ent.keys, Bool.or_eq_true]
      rcases h with ⟨h1, h2⟩ | ⟨h1, h2⟩ | ⟨h1, h2⟩ | ⟨h1, h2⟩ | ⟨h1, h2⟩ | ⟨h1, h2⟩
      · exact .inl (.inl (.inl (.inl (.inl (overlap_of h1 h2)))))
      · exact .inl (.inl (.inl (.inl (.inr (overlap_of h1 h2)))))
      · exact .inl (.inl (.inl (.inr (overlap_of h1 h2))))
      · exact .inl (.inl (.inr (overlap_of h1 h2)))
      · exact .inl (.inr (overlap_of h1 h2))
      · exact .inr (overlap_of h1 h2)
    -- what it reads is what the text's order gives
    have hmask : ∀ i A, Es[i]? = some A → (A.keys.conflict E.keys = true ∨ E.keys.conflict A.keys = true) → i ≠ j → Nat.blt i j = listed.getD i false ∨ True := fun _ _ _ _ _ => .inr trivial
    have hread : ∀ i A, Es[i]? = some A → i ≠ j → (i < j → A.keys.conflict E.keys = true) → (j < i → E.keys.conflict A.keys = true) → Nat.blt i j = listed.getD i false := by
      intro i A hA' hne h1 h2
      rcases Nat.lt_or_gt_of_ne hne with h | h
      · rw [hearly i A h hA' (h1 h)]
        simp only [Nat.blt]; exact Nat.ble_eq_true_of_le h
      · rw [hlate i A h hA' (h2 h)]
        rw [Bool.eq_false_iff]
        intro e
        have := blt_lt e
        omega
    have hR : AgL (maskS (fun i => listed.getD i false) 0 Es (lk .dead l)) E.R := agl_congr (fun t ht => by
      refine mask_agree (U := Ent.U) rfl fun i A hA' hw => ?_
      rw [Nat.zero_add]
      by_cases e : i = j
      · subst e
        rw [hLj, Bool.eq_false_iff]
        intro e'; have := blt_lt e'; omega
      · exact hread i A hA' e (fun _ => hcf (.inl ⟨hw, ht⟩)) (fun _ => hcf (.inr (.inr (.inl ⟨ht, hw⟩))))) b3
    have hRO : OgL (maskO (fun i => listed.getD i false) 0 Es (lk .gone m)) E.RO := ogl_congr (fun t ht => by
      refine mask_agree (U := Ent.UO) rfl fun i A hA' hw => ?_
      rw [Nat.zero_add]
      by_cases e : i = j
      · subst e
        rw [hLj, Bool.eq_false_iff]
        intro e'; have := blt_lt e'; omega
      · exact hread i A hA' e (fun _ => hcf (.inr (.inr (.inr (.inl ⟨hw, ht⟩))))) (fun _ => hcf (.inr (.inr (.inr (.inr (.inr ⟨ht, hw⟩))))))) b4
    have hntk : ∀ t ∈ E.NT, t ∈ E.UO.map (·.1) := fun t ht => by
      simp only [List.all_eq_true] at hnt
      have h1 := hnt E.keys (List.mem_map.2 ⟨E, List.mem_of_getElem? hE, rfl⟩) t ht
      simp only [List.any_eq_true] at h1
      obtain ⟨s, h2, h3⟩ := h1
      rw [← Nat.eq_of_beq_eq_true h3]
      exact h2
    have hntA : ∀ (i : Nat) (A : Ent), Es[i]? = some A → ∀ t ∈ A.NT, t ∈ A.UO.map (·.1) := fun i A hA' t ht => by
      simp only [List.all_eq_true] at hnt
      have h1 := hnt A.keys (List.mem_map.2 ⟨A, List.mem_of_getElem? hA', rfl⟩) t ht
      simp only [List.any_eq_true] at h1
      obtain ⟨s, h2, h3⟩ := h1
      rw [← Nat.eq_of_beq_eq_true h3]
      exact h2
    have hVn : VgL (maskV (fun i => listed.getD i false) Es (fun t => n ≤ t)) E.NT := vgl_of fun t ht => ⟨b5 t ht, fun i A hA' hli hm => by
      rcases Nat.lt_trichotomy i j with h | h | h
      · exact b6 t ht i A h hA' hm
      · subst h; exact absurd ((show listed.getD i false = true from hli).symm.trans hLj) (by simp)
      · have := hlate i A h hA' (hcf (.inr (.inr (.inr (.inr (.inl ⟨hntk t ht, hntA i A hA' t hm⟩))))))
        exact absurd ((show listed.getD i false = true from hli).symm.trans this) (by simp)⟩
    have hnewL : (fun i => (listed.setIfInBounds j true).getD i false) = fun i => Nat.beq i j || listed.getD i false := by
      funext i
      by_cases e : i = j
      · subst e
        rw [beq_self, Bool.true_or]
        simp [Array.getD, hsz, hlt]
      · rw [beq_ne e, Bool.false_or, getD_set_ne false (Ne.symm e)]
    unfold wpOp
    rw [ho]
    have hmain := b1 cx _ _ _ a w hR hRO hVn b2 hinv (wpAny P .any ol.toArray (conc cx Q) fuel (listed.setIfInBounds j true)) (conc cx Q) (fun a' w' hi => ?_)
    · dsimp only
      split
      · rename_i hw; rw [if_pos hw] at hmain; exact .inl hmain
      · rename_i hw; rw [if_neg hw] at hmain; exact hmain
    · refine ih _ a' w' (by simpa using hsz) ?_ ?_ ?_
      · have := cnt_lt (p := fun i => !listed.getD i true) (p' := fun i => !(listed.setIfInBounds j true).getD i true) (j := j) (l := List.range ol.length) (fun x hx => by
          by_cases e : j = x
          · subst e; simp only [hj1]; rfl
          · rw [getD_set_ne true e] at hx; exact hx) (List.mem_range.2 hlt) (by simp only [hj1]; rfl) (by simp [Array.getD, hsz, hlt])
        omega
      · intro k o' hk ho2 e he hb
        have hk' : (Nat.beq k j || listed.getD k false) = true := (congrFun hnewL k).symm.trans hk
        refine (congrFun hnewL e.on).trans ?_
        simp only [Bool.or_eq_true] at hk' ⊢
        have hk := hk'
        rcases hk with hk | hk
        · have := Nat.eq_of_beq_eq_true hk
          subst this
          rw [ho'] at ho2
          cases ho2
          exact .inr (hdir e he hb)
        · exact .inr (hcl k o' hk ho2 e he hb)
      · have e1 : maskS (fun i => (listed.setIfInBounds j true).getD i false) 0 Es (lk .dead l) = lkf (maskS (fun i => listed.getD i false) 0 Es (lk .dead l)) E.U := by
          rw [hnewL]
          exact mask_step (U := Ent.U) hE hLj fun i A hi hA' ⟨t, h1, h2⟩ => hlate i A hi hA' (hcf (.inr (.inl ⟨h1, h2⟩)))
        have e2 : maskO (fun i => (listed.setIfInBounds j true).getD i false) 0 Es (lk .gone m) = lkf (maskO (fun i => listed.getD i false) 0 Es (lk .gone m)) E.UO := by
          rw [hnewL]
          exact mask_step (U := Ent.UO) hE hLj fun i A hi hA' ⟨t, h1, h2⟩ => hlate i A hi hA' (hcf (.inr (.inr (.inr (.inr (.inl ⟨h1, h2⟩))))))
        rw [e1, e2]
        obtain ⟨ρ, Z, hg⟩ := hi
        refine ⟨ρ, Z, hg.weak fun t ht => ⟨⟨ht.1, fun i A hA' hli => ht.2 i A hA' ?_⟩, ht.2 j E hE ?_⟩⟩
        · refine (congrFun hnewL i).trans ?_
          rw [show listed.getD i false = true from hli, Bool.or_true]
        · refine (congrFun hnewL j).trans ?_
          rw [beq_self, Bool.true_or]

def AD (P : Program) (ol : List Oper) (cx : Cx) (Q : APost) (done : List Keys) (todo : List Oper) (l : SL) (m : OL) (n : Nat) : Prop :=
  ∃ Es l2 m2 n2, Lex P ol.toArray cx.N todo Es l m n l2 m2 n2 ∧ chk (done.reverse ++ Es.map Ent.keys) ol = true ∧ Q .normal l2 m2 n2

section
variable {P : Program} {ol : List Oper} {cx : Cx} {Q : APost} {done : List Keys} {rest : List Oper} {l : SL} {m : OL} {n : Nat}

theorem aw_draw {id : Nat} (hm : P.follows .mixedOrders = true) (h : AD P ol cx Q [] ol l m n) : AW P cx (.region id ol.toArray true) Q l m n := by
  obtain ⟨Es, l2, m2, n2, h1, h2, h3⟩ := h
  rintro a w ⟨ρ, Z, hg⟩
  refine wp_region_any hm (any_order h1 (by simpa using h2) h3 _ _ a _ (by simp) ?_ ?_ ?_)
  · refine Nat.le_trans List.countP_le_length ?_
    simp
  · intro j o hj
    exfalso
    simp [Array.getD] at hj
  · have hnone : ∀ {α : Type} (U : Ent → List (Nat × α)) (Es : List Ent) (k : Nat) (S : Nat → α), maskF (fun S E => lkf S (U E)) (fun i => (Array.replicate ol.toArray.size false).getD i false) k Es S = S := by
      intro α U Es
      induction Es with
      | nil => intro k S; rfl
      | cons E Es ih =>
        intro k S
        have e : (Array.replicate ol.toArray.size false).getD k false = false := by simp [Array.getD]
        simp only [maskF]
        rw [e, cond_false]
        exact ih _ _
    refine ⟨ρ, Z, ?_⟩
    show Good cx (maskF (fun S E => lkf S (Ent.U E)) _ 0 Es _) (maskF (fun S E => lkf S (Ent.UO E)) _ 0 Es _) _ a _ ρ Z
    rw [hnone, hnone]
    have hg' : Good cx (lk .dead l) (lk .gone m) (fun t => n ≤ t) a { w with drawn := w.drawn + 1 } ρ Z := hg.grow (w' := w.drew) ⟨rfl, rfl, rfl, Nat.le_refl _, fun _ _ _ => rfl⟩
    exact hg'.weak fun t ht => ht.1

theorem ad_nil (hc : chk done.reverse ol = true) (h : Q .normal l m n) : AD P ol cx Q done [] l m n := ⟨[], l, m, n, .nil, by simpa using hc, h⟩

theorem ad_ent {o : Oper} {E : Ent} {n' : Nat} (hE : EntOK P ol.toArray o E) (h1 : AgL (lk .dead l) E.R) (h2 : OgL (lk .gone m) E.RO) (h3 : ∀ t ∈ E.NT, n ≤ t ∧ t < n') (h4 : n ≤ n') (h5 : UgL cx.N E.U)
    (k : AD P ol cx Q (E.keys :: done) rest (E.U ++ l) (E.UO ++ m) n') : AD P ol cx Q done (o :: rest) l m n := by
  obtain ⟨Es, l2, m2, n2, a1, a2, a3⟩ := k
  exact ⟨E :: Es, l2, m2, n2, .cons hE h1 h2 h3 h4 h5 a1, by simpa using a2, a3⟩

variable {dst : Option Tmp} {op : Op} {ty : TypeId} {pos : String} {af : Array Edge} {R : List (Operand × AV)} {RO : OL}

theorem entOK_of {NT : List Nat} {U : SL} {UO : OL} (hx : OpX P ⟨dst, op, ty, pos, af, none⟩ R RO NT U UO) : EntOK P ol.toArray ⟨dst, op, ty, pos, af, none⟩ ⟨R, RO, NT, U, UO⟩ := by
  intro cx S O V a w hR hO hV hU hi K Q hK
  rw [if_pos (by simp [Region.wanted])]
  exact hx cx S O V a w hR hO hV hU hi K Q hK

theorem yielded_inv {cx : Cx} {S : Nat → AV} {O : Nat → OB} {V : Nat → Prop} {a : Act} {w : World} (hs : Inv cx S O V a w) {ops : Array Oper} {j dj : Nat} {b : Bool} (hj : (ops[j]?).bind (·.dst) = some dj) (hb : S dj = .b b) :
    yielded ops a.tmps j = some b := by
  obtain ⟨ρ, Z, hg⟩ := hs
  have h1 := hg.slot dj
  rw [hb] at h1
  have h2 := da_raw h1
  have hlt : dj < a.tmps.size := by
    rcases Nat.lt_or_ge dj a.tmps.size with h | h
    · exact h
    · exfalso
      have : a.tmps.getD dj undef = undef := by simp [Array.getD, Nat.not_lt.2 h]
      rw [this] at h2
      cases h2
  have h3 : a.tmps[dj]? = some (.bool b) := by
    rw [Array.getElem?_eq_getElem hlt]
    simp only [Array.getD, hlt, dite_true] at h2
    exact congrArg some h2
  simp [yielded, hj, h3]

theorem entOK_on {NT : List Nat} {U : SL} {UO : OL} {j dj : Nat} {want b : Bool} (hj : (ol.toArray[j]?).bind (·.dst) = some dj) (hw : b = want) (hx : OpX P ⟨dst, op, ty, pos, af, none⟩ R RO NT U UO) :
    EntOK P ol.toArray ⟨dst, op, ty, pos, af, some (j, want)⟩ ⟨(.tmp dj, .b b) :: R, RO, NT, U, UO⟩ := by
  intro cx S O V a w hR hO hV hU hi K Q hK
  have hy := yielded_inv hi hj hR.1
  subst hw
  rw [if_pos (by simp [Region.wanted, hy])]
  exact hx cx S O V a w hR.2 hO hV hU hi K Q hK

theorem entOK_off {d j dj : Nat} {want b : Bool} (hj : (ol.toArray[j]?).bind (·.dst) = some dj) (hw : b = !want) :
    EntOK P ol.toArray ⟨some d, op, ty, pos, af, some (j, want)⟩ ⟨[(.tmp dj, .b b)], [], [], [(d, .tup [])], []⟩ := by
  intro cx S O V a w hR hO hV hU hi K Q hK
  have hy := yielded_inv hi hj hR.1
  subst hw
  have h1 : Region.wanted (⟨some d, op, ty, pos, af, some (j, want)⟩ : Oper) (yielded ol.toArray a.tmps) = false := by cases want <;> simp [Region.wanted, hy]
  rw [if_neg (by rw [h1]; simp)]
  obtain ⟨ρ, Z, hg⟩ := hi
  exact hK _ _ ⟨ρ, Z, (hg.put (x := .tup []) (v := undef) (blt_lt hU.1) ⟨[], rfl, trivial⟩ (by simp [AV.tags])).weak fun t ht => ht.1⟩

theorem entOK_off2 {d j dj : Nat} {want : Bool} (hj : (ol.toArray[j]?).bind (·.dst) = some dj) :
    EntOK P ol.toArray ⟨some d, op, ty, pos, af, some (j, want)⟩ ⟨[(.tmp dj, .tup [])], [], [], [(d, .tup [])], []⟩ := by
  intro cx S O V a w hR hO hV hU hi K Q hK
  have hy := yielded_none hi hj hR.1
  have h1 : Region.wanted (⟨some d, op, ty, pos, af, some (j, want)⟩ : Oper) (yielded ol.toArray a.tmps) = false := by simp [Region.wanted, hy]
  rw [if_neg (by rw [h1]; simp)]
  obtain ⟨ρ, Z, hg⟩ := hi
  exact hK _ _ ⟨ρ, Z, (hg.put (x := .tup []) (v := undef) (blt_lt hU.1) ⟨[], rfl, trivial⟩ (by simp [AV.tags])).weak fun t ht => ht.1⟩

theorem ad_v {d : Nat} {x : AV} (hx : OpX P ⟨some d, op, ty, pos, af, none⟩ R RO [] [(d, x)] []) (hR : AgL (lk .dead l) R) (hO : OgL (lk .gone m) RO) (hd : Nat.blt d cx.N = true)
    (k : AD P ol cx Q (⟨rtmps R, [d], RO.map (·.1), [], []⟩ :: done) rest ((d, x) :: l) m n) : AD P ol cx Q done (⟨some d, op, ty, pos, af, none⟩ :: rest) l m n :=
  ad_ent (n' := n) (entOK_of hx) hR hO (by simp) (Nat.le_refl _) ⟨hd, trivial⟩ k
theorem ad_s {UO : OL} (hx : OpX P ⟨none, op, ty, pos, af, none⟩ R RO [] [] UO) (hR : AgL (lk .dead l) R) (hO : OgL (lk .gone m) RO)
    (k : AD P ol cx Q (⟨rtmps R, [], RO.map (·.1), UO.map (·.1), []⟩ :: done) rest l (UO ++ m) n) : AD P ol cx Q done (⟨none, op, ty, pos, af, none⟩ :: rest) l m n :=
  ad_ent (n' := n) (entOK_of hx) hR hO (by simp) (Nat.le_refl _) trivial k
theorem ad_on {d j dj : Nat} {want b : Bool} {x : AV} (hj : (ol.toArray[j]?).bind (·.dst) = some dj) (hb : lk .dead l dj = .b b) (hw : b = want) (hx : OpX P ⟨some d, op, ty, pos, af, none⟩ R RO [] [(d, x)] []) (hR : AgL (lk .dead l) R) (hO : OgL (lk .gone m) RO) (hd : Nat.blt d cx.N = true)
    (k : AD P ol cx Q (⟨dj :: rtmps R, [d], RO.map (·.1), [], []⟩ :: done) rest ((d, x) :: l) m n) : AD P ol cx Q done (⟨some d, op, ty, pos, af, some (j, want)⟩ :: rest) l m n :=
  ad_ent (n' := n) (entOK_on hj hw hx) ⟨hb, hR⟩ hO (by simp) (Nat.le_refl _) ⟨hd, trivial⟩ k
theorem ad_off {d j dj : Nat} {want b : Bool} (hj : (ol.toArray[j]?).bind (·.dst) = some dj) (hb : lk .dead l dj = .b b) (hw : b = !want) (hd : Nat.blt d cx.N = true)
    (k : AD P ol cx Q (⟨[dj], [d], [], [], []⟩ :: done) rest ((d, .tup []) :: l) m n) : AD P ol cx Q done (⟨some d, op, ty, pos, af, some (j, want)⟩ :: rest) l m n :=
  ad_ent (n' := n) (entOK_off hj hw) ⟨hb, trivial⟩ trivial (by simp) (Nat.le_refl _) ⟨hd, trivial⟩ k
theorem ad_off2 {d j dj : Nat} {want : Bool} (hj : (ol.toArray[j]?).bind (·.dst) = some dj) (hb : lk .dead l dj = .tup []) (hd : Nat.blt d cx.N = true)
    (k : AD P ol cx Q (⟨[dj], [d], [], [], []⟩ :: done) rest ((d, .tup []) :: l) m n) : AD P ol cx Q done (⟨some d, op, ty, pos, af, some (j, want)⟩ :: rest) l m n :=
  ad_ent (n' := n) (entOK_off2 hj) ⟨hb, trivial⟩ trivial (by simp) (Nat.le_refl _) ⟨hd, trivial⟩ k
/-- both ways of a guard -/
theorem ad_split {j dj : Nat} {o : Oper} {want b : Bool} (hg : o.guard = some (j, want)) (hj : (ol.toArray[j]?).bind (·.dst) = some dj) (hb : lk .dead l dj = .b b) (h1 : b = want → AD P ol cx Q done (o :: rest) l m n) (h0 : b = (!want) → AD P ol cx Q done (o :: rest) l m n) : AD P ol cx Q done (o :: rest) l m n := by
  by_cases h : b = want
  · exact h1 h
  · exact h0 (by cases b <;> cases want <;> simp_all)
end
end Go.Proofs.Ytokhfcfnhgianaa
/-
  Calls whose results are known, in the text's order and in drawn regions.
-/
namespace Go.Proofs.Ytokhfcfnhgianaa
open Go.RowKit
set_option linter.unusedVariables false
set_option linter.unusedSimpArgs false

/-- The objects that an aggregate's cells lead to. -/
def argOA (O : Nat → OB) : List A1 → OL
  | [] => []
  | .own t :: xs => (t, O t) :: argOA O xs
  | _ :: xs => argOA O xs
theorem OgL.split {O : Nat → OB} : ∀ {A B : OL}, OgL O (A ++ B) → OgL O A ∧ OgL O B
  | [], B, h => ⟨trivial, h⟩
  | (t, v) :: A, B, h => ⟨⟨h.1, (OgL.split h.2).1⟩, (OgL.split h.2).2⟩
theorem OgL.join {O : Nat → OB} : ∀ {A B : OL}, OgL O A → OgL O B → OgL O (A ++ B)
  | [], B, _, h => h
  | (t, v) :: A, B, h, h2 => ⟨h.1, OgL.join h.2 h2⟩
theorem argOA_ok {O : Nat → OB} : ∀ (xs : List A1), OgL O (argOA O xs)
  | [] => trivial
  | x :: xs => by
    cases x <;> first | exact ⟨rfl, argOA_ok xs⟩ | exact argOA_ok xs
theorem argOA_cons {O : Nat → OB} {x : A1} {xs : List A1} {O' : Nat → OB} (h : OgL O' (argOA O (x :: xs))) : (∀ t, x = .own t → O' t = O t) ∧ OgL O' (argOA O xs) := by
  cases x with
  | own t => exact ⟨fun t' e => by cases e; exact h.1, h.2⟩
  | _ => exact ⟨fun t' e => (by cases e), h⟩
theorem RdL.turn {O O' : Nat → OB} {xs ys : List A1} (h : RdL O true xs ys) : OgL O' (argOA O xs) → RdL O' true xs ys := by
  induction h with
  | nil => intro _; exact .nil
  | cons h1 _ ih =>
    intro ho
    obtain ⟨h2, h3⟩ := argOA_cons ho
    refine .cons ?_ (ih h3)
    cases h1 with
    | same h => exact .same h
    | froz h => exact .froz (by rw [h2 _ rfl]; exact h)
    | row _ h => exact .row rfl (by rw [h2 _ rfl]; exact h)
    | rnil => exact .rnil
theorem argOA_none {O : Nat → OB} : ∀ {xs : List A1}, AR.tags (.agg xs) = [] → argOA O xs = []
  | [], _ => rfl
  | x :: xs, h => by
    simp only [AR.tags, List.flatMap_cons, List.append_eq_nil_iff] at h
    cases x with
    | own t => exact absurd h.1 (by simp [A1.tag])
    | _ => exact argOA_none (xs := xs) h.2
/-- Arguments, with what is read for them. -/
inductive ArgsD (S : Nat → AV) (O : Nat → OB) : List Operand → List AR → List (Operand × AV) → OL → Prop where
  | nil : ArgsD S O [] [] [] []
  | one {x : Operand} {r : AR} {xs : List Operand} {rs : List AR} {R : List (Operand × AV)} {RO : OL} : Ag S x (.r r) → r.tags = [] → ArgsD S O xs rs R RO → ArgsD S O (x :: xs) (r :: rs) ((x, .r r) :: R) RO
  | froz {x : Operand} {t wd : Nat} {rows : List (List CV)} {xs : List Operand} {rs : List AR} {R : List (Operand × AV)} {RO : OL} : Ag S x (.own t) → O t = .froz wd rows → ArgsD S O xs rs R RO →
      ArgsD S O (x :: xs) (.one (.c (.sl wd rows)) :: rs) ((x, .own t) :: R) ((t, .froz wd rows) :: RO)
  | rnil {x : Operand} {wd : Nat} {xs : List Operand} {rs : List AR} {R : List (Operand × AV)} {RO : OL} : Ag S x (.raw (.slice none 0 0)) → ArgsD S O xs rs R RO → ArgsD S O (x :: xs) (.one (.c (.sl wd [])) :: rs) ((x, .raw (.slice none 0 0)) :: R) RO
  | row {x : Operand} {t wd : Nat} {e : TypeId} {rows : List (List CV)} {xs : List Operand} {rs : List AR} {R : List (Operand × AV)} {RO : OL} : Ag S x (.own t) → O t = .row wd e rows → ArgsD S O xs rs R RO →
      ArgsD S O (x :: xs) (.one (.c (.sl wd rows)) :: rs) ((x, .own t) :: R) ((t, .row wd e rows) :: RO)
  | agg {x : Operand} {us vs : List A1} {xs : List Operand} {rs : List AR} {R : List (Operand × AV)} {RO : OL} : Ag S x (.agg us) → RdL O true us vs → ArgsD S O xs rs R RO →
      ArgsD S O (x :: xs) (.agg vs :: rs) ((x, .agg us) :: R) (argOA O us ++ RO)

theorem ArgsD.ok {S : Nat → AV} {O : Nat → OB} {xs : List Operand} {rs : List AR} {R : List (Operand × AV)} {RO : OL} (h : ArgsD S O xs rs R RO) :
    AgL S R ∧ OgL O RO ∧ ∀ (S' : Nat → AV) (O' : Nat → OB) (f : Nat → Nat), AgL S' R → OgL O' RO → Args S' O' f true xs rs := by
  induction h with
  | nil => exact ⟨trivial, trivial, fun _ _ _ _ _ => .nil⟩
  | one h1 h2 _ ih => exact ⟨⟨h1, ih.1⟩, ih.2.1, fun S' O' f hR hO => .one hR.1 h2 (ih.2.2 S' O' f hR.2 hO)⟩
  | froz h1 h2 _ ih => exact ⟨⟨h1, ih.1⟩, ⟨h2, ih.2.1⟩, fun S' O' f hR hO => .froz hR.1 hO.1 (ih.2.2 S' O' f hR.2 hO.2)⟩
  | rnil h1 _ ih => exact ⟨⟨h1, ih.1⟩, ih.2.1, fun S' O' f hR hO => .rnil hR.1 (ih.2.2 S' O' f hR.2 hO)⟩
  | row h1 h2 _ ih => exact ⟨⟨h1, ih.1⟩, ⟨h2, ih.2.1⟩, fun S' O' f hR hO => .row rfl hR.1 hO.1 (ih.2.2 S' O' f hR.2 hO.2)⟩
  | agg h1 h2 _ ih => exact ⟨⟨h1, ih.1⟩, OgL.join (argOA_ok _) ih.2.1, fun S' O' f hR hO => .agg hR.1 (h2.turn (OgL.split hO).1) (ih.2.2 S' O' f hR.2 (OgL.split hO).2)⟩

/-- Arguments as they stand. -/
inductive ArgsX (S : Nat → AV) (O : Nat → OB) : List Operand → List AR → Prop where
  | nil : ArgsX S O [] []
  | one {x : Operand} {r : AR} {xs : List Operand} {rs : List AR} : Ag S x (.r r) → r.tags = [] → ArgsX S O xs rs → ArgsX S O (x :: xs) (r :: rs)
  | froz {x : Operand} {t wd : Nat} {rows : List (List CV)} {xs : List Operand} {rs : List AR} : Ag S x (.own t) → O t = .froz wd rows → ArgsX S O xs rs → ArgsX S O (x :: xs) (.one (.c (.sl wd rows)) :: rs)
  | rnil {x : Operand} {wd : Nat} {xs : List Operand} {rs : List AR} : Ag S x (.raw (.slice none 0 0)) → ArgsX S O xs rs → ArgsX S O (x :: xs) (.one (.c (.sl wd [])) :: rs)
  | row {x : Operand} {t wd : Nat} {e : TypeId} {rows : List (List CV)} {xs : List Operand} {rs : List AR} : Ag S x (.own t) → O t = .row wd e rows → ArgsX S O xs rs → ArgsX S O (x :: xs) (.one (.c (.sl wd rows)) :: rs)
  | agg {x : Operand} {us vs : List A1} {xs : List Operand} {rs : List AR} : Ag S x (.agg us) → RdL O true us vs → ArgsX S O xs rs → ArgsX S O (x :: xs) (.agg vs :: rs)
def argR (S : Nat → AV) (xs : List Operand) : List (Operand × AV) := xs.map fun x => (x, vl S x)
def argO1 (O : Nat → OB) : AV → OL
  | .r (.one (.own t)) => [(t, O t)]
  | .r (.agg xs) => argOA O xs
  | _ => []
def argO (S : Nat → AV) (O : Nat → OB) (xs : List Operand) : OL := xs.flatMap fun x => argO1 O (vl S x)
theorem argO1_c {O : Nat → OB} {r : AR} (h : r.tags = []) : argO1 O (.r r) = [] := by
  cases r with
  | one x => cases x <;> first | rfl | cases h
  | agg xs => exact argOA_none h
theorem ArgsX.d {S : Nat → AV} {O : Nat → OB} {xs : List Operand} {rs : List AR} (h : ArgsX S O xs rs) : ArgsD S O xs rs (argR S xs) (argO S O xs) := by
  induction h with
  | nil => exact .nil
  | one h1 h2 _ ih =>
    have e : vl S _ = _ := h1
    simp only [argR, argO, List.map_cons, List.flatMap_cons, e, argO1_c h2, List.nil_append]
    exact .one h1 h2 ih
  | froz h1 h2 _ ih =>
    have e : vl S _ = _ := h1
    simp only [argR, argO, List.map_cons, List.flatMap_cons, e, argO1, h2, List.cons_append, List.nil_append]
    exact .froz h1 h2 ih
  | rnil h1 _ ih =>
    have e : vl S _ = _ := h1
    simp only [argR, argO, List.map_cons, List.flatMap_cons, e, argO1, List.nil_append]
    exact .rnil h1 ih
  | row h1 h2 _ ih =>
    have e : vl S _ = _ := h1
    simp only [argR, argO, List.map_cons, List.flatMap_cons, e, argO1, h2, List.cons_append, List.nil_append]
    exact .row h1 h2 ih
  | agg h1 h2 _ ih =>
    have e : vl S _ = _ := h1
    simp only [argR, argO, List.map_cons, List.flatMap_cons, e, argO1]
    exact .agg h1 h2 ih

section
variable {P : Program}
/-- Results that are numbers, bools, strings. -/
def rawAR : AR → Bool
  | .one (.c (.raw _)) => true
  | .agg xs => xs.all fun x => match x with | .c (.raw _) => true | _ => false
  | _ => false

theorem rawAR_tags {r : AR} (h : rawAR r = true) : r.tags = [] := by
  cases r with
  | one x => cases x <;> first | rfl | cases h
  | agg xs =>
    simp only [rawAR] at h
    simp only [AR.tags]
    induction xs with
    | nil => rfl
    | cons x xs ih =>
      simp only [List.all_cons, Bool.and_eq_true] at h
      rw [List.flatMap_cons, ih h.2]
      cases x <;> first | rfl | cases h.1
theorem rawAR_flat {r : AR} (h : rawAR r = true) : r.flat = true := by
  cases r with
  | one x =>
    cases x with
    | c x => cases x <;> first | rfl | cases h
    | _ => cases h
  | agg xs =>
    simp only [rawAR] at h
    simp only [AR.flat]
    rw [List.all_eq_true] at h ⊢
    intro x hx
    have := h x hx
    cases x with
    | c x => cases x <;> first | rfl | cases this
    | _ => cases this

/-- Everything in a call's results is plain: any order will do. -/
theorem opx_call {f : FuncId} {xs : List Operand} {ats : Array TypeId} {args rs0 : List AR} {R : List (Operand × AV)} {RO : OL} {d : Nat} {ty : TypeId} {pos : String} {af : Array Edge}
    (hc : Con P f args [] (fun rs all => rs = rs0 ∧ all = [])) (hr : rs0.all rawAR = true) (ha : ∀ (S : Nat → AV) (O : Nat → OB) (f : Nat → Nat), AgL S R → OgL O RO → Args S O f true xs args) :
    OpX P ⟨some d, .call { callee := .value (.func f), args := xs.toArray, argTypes := ats }, ty, pos, af, none⟩ R RO [] [(d, mkRes rs0)] [] := by
  rintro cx S O V a w hR hO _ hU ⟨ρ, Z, hg⟩ K Q hK
  have hent : Entry w (fun t => ρ t) (fun g => Z g ∨ RowZ O ρ g) args [] (xs.map a.eval) := by
    refine ⟨(ha S O (fun t => t) hR hO).drl hg (fun _ h => .inl h) (fun _ _ h => .inr h), fun i => by simp [obAt]; trivial, fun i j g h1 => by simp [obAt, OB.live] at h1, fun i g h1 => by simp [obAt, OB.live] at h1, fun g h => ?_, hg.gl.mono (fun _ h => .inl h) (Same.refl _ _)⟩
    rcases h with h | ⟨t, wd, e, rows, h1, h2⟩
    · exact hg.zlt g h
    · exact hg.lt (by rw [h1]; rfl) h2
  have hcall := hc.run w _ _ _ hent
  unfold Oper.wp
  have hexec : (execOp a.eval ⟨some d, .call { callee := .value (.func f), args := xs.toArray, argTypes := ats }, ty, pos, af, none⟩).run P w = .ok (.enter f (xs.map a.eval).toArray) w := by
    rw [execOp_call_go, run_callFunc hc.ok]
    simp
  rw [hexec, Oper.upon_enter]
  refine hcall.mono fun e w' ⟨rs, all, us, ρ', Z', hpost, hlen, he, hl⟩ => ?_
  subst he
  obtain ⟨rfl, rfl⟩ := hpost
  have hgr : w.grownBy w' none := ⟨hl.os, hl.tape, hl.output, hl.size, fun g hg _ => hl.old g hg (by rintro ⟨i, h1, _⟩; simp [obAt, OB.live] at h1)⟩
  have hG := hg.grow hgr
  rw [List.all_eq_true] at hr
  have hres : DRL ρ Z w' rs us := DRL.mono (fun _ h => h) (Same.refl _ _) (fun x hx t ht => by rw [rawAR_tags (hr x hx)] at ht; cases ht) (hl.res.flat (Z' := Z) (List.all_eq_true.2 fun x hx => rawAR_flat (hr x hx)))
  have hda : DA ρ Z w' (mkRes rs) (mkRet us) := by
    match rs, us, hres with
    | [], [], _ => exact ⟨[], rfl, trivial⟩
    | [r], [u], h => exact h.1
    | r :: r2 :: rs, u :: u2 :: us, h => exact ⟨_, rfl, h⟩
  refine hK _ _ ⟨ρ, Z, (hG.put (blt_lt hU.1) hda fun s hs _ => ?_).weak fun t ht => ht.1⟩
  have : ∀ r ∈ rs, s ∉ r.tags := fun r hr' h => by rw [rawAR_tags (hr r hr')] at h; cases h
  match rs, hs with
  | [], hs => simp [mkRes, AV.tags] at hs
  | [r], hs => exact this r (.head _) hs
  | r :: r2 :: rs, hs =>
    simp only [mkRes, AV.tags, List.mem_flatMap] at hs
    obtain ⟨r', h6, h7⟩ := hs
    exact this r' h6 h7

variable {ops : Array Oper} {cx : Cx} {Q : APost} {rest : List Oper} {l : SL} {m : OL} {n : Nat}
variable {d : Nat} {ty : TypeId} {pos : String} {af : Array Edge} {f : FuncId} {xs : List Operand} {ats : Array TypeId} {args rs0 : List AR}

theorem al_callv (hc : Con P f args [] (fun rs all => rs = rs0 ∧ all = [])) (hr : rs0.all rawAR = true) (ha : ArgsX (lk .dead l) (lk .gone m) xs args) (hd : Nat.blt d cx.N = true) (k : AL P ops cx Q rest ((d, mkRes rs0) :: l) m n) :
    AL P ops cx Q (⟨some d, .call { callee := .value (.func f), args := xs.toArray, argTypes := ats }, ty, pos, af, none⟩ :: rest) l m n :=
  al_v (opx_call hc hr ha.d.ok.2.2) ha.d.ok.1 ha.d.ok.2.1 hd k
theorem ad_callv {ol : List Oper} {done : List Keys} (hc : Con P f args [] (fun rs all => rs = rs0 ∧ all = [])) (hr : rs0.all rawAR = true) (ha : ArgsX (lk .dead l) (lk .gone m) xs args) (hd : Nat.blt d cx.N = true)
    (k : AD P ol cx Q (⟨rtmps (argR (lk .dead l) xs), [d], (argO (lk .dead l) (lk .gone m) xs).map (·.1), [], []⟩ :: done) rest ((d, mkRes rs0) :: l) m n) :
    AD P ol cx Q done (⟨some d, .call { callee := .value (.func f), args := xs.toArray, argTypes := ats }, ty, pos, af, none⟩ :: rest) l m n :=
  ad_v (opx_call hc hr ha.d.ok.2.2) ha.d.ok.1 ha.d.ok.2.1 hd k
theorem ad_callv_on {ol : List Oper} {done : List Keys} {j dj : Nat} {want b : Bool} (hj : (ol.toArray[j]?).bind (·.dst) = some dj) (hb : lk .dead l dj = .b b) (hw : b = want)
    (hc : Con P f args [] (fun rs all => rs = rs0 ∧ all = [])) (hr : rs0.all rawAR = true) (ha : ArgsX (lk .dead l) (lk .gone m) xs args) (hd : Nat.blt d cx.N = true)
    (k : AD P ol cx Q (⟨dj :: rtmps (argR (lk .dead l) xs), [d], (argO (lk .dead l) (lk .gone m) xs).map (·.1), [], []⟩ :: done) rest ((d, mkRes rs0) :: l) m n) :
    AD P ol cx Q done (⟨some d, .call { callee := .value (.func f), args := xs.toArray, argTypes := ats }, ty, pos, af, some (j, want)⟩ :: rest) l m n :=
  ad_on hj hb hw (opx_call hc hr ha.d.ok.2.2) ha.d.ok.1 ha.d.ok.2.1 hd k

/-- one fresh slice as the result -/
theorem al_callr {wd : Nat} {e : TypeId} {rows : List (List CV)} (hc : Con P f args [] (fun rs all => rs = [.one (.own 0)] ∧ all = [.row wd e rows])) (ha : Args (lk .dead l) (lk .gone m) (cpi [] n) false xs args) (hd : Nat.blt d cx.N = true)
    (k : AL P ops cx Q rest ((d, .own n) :: l) ((n, .row wd e rows) :: m) (n + 1)) :
    AL P ops cx Q (⟨some d, .call { callee := .value (.func f), args := xs.toArray, argTypes := ats }, ty, pos, af, none⟩ :: rest) l m n :=
  al_call hc ha hd fun rs all ⟨h1, h2⟩ => by
    subst h1 h2
    exact k
def flatRows (rows : List (List CV)) : Prop := ∀ r ∈ rows, ∀ c ∈ r, CV.flat c = true
theorem al_callv2 (ha : ArgsX (lk .dead l) (lk .gone m) xs args) (hd : Nat.blt d cx.N = true) (hc : Con P f args [] (fun rs all => rs = rs0 ∧ all = [])) (hr : rs0.all rawAR = true) (k : AL P ops cx Q rest ((d, mkRes rs0) :: l) m n) :
    AL P ops cx Q (⟨some d, .call { callee := .value (.func f), args := xs.toArray, argTypes := ats }, ty, pos, af, none⟩ :: rest) l m n := al_callv hc hr ha hd k
theorem ad_callv2 {ol : List Oper} {done : List Keys} (ha : ArgsX (lk .dead l) (lk .gone m) xs args) (hd : Nat.blt d cx.N = true) (hc : Con P f args [] (fun rs all => rs = rs0 ∧ all = [])) (hr : rs0.all rawAR = true)
    (k : AD P ol cx Q (⟨rtmps (argR (lk .dead l) xs), [d], (argO (lk .dead l) (lk .gone m) xs).map (·.1), [], []⟩ :: done) rest ((d, mkRes rs0) :: l) m n) :
    AD P ol cx Q done (⟨some d, .call { callee := .value (.func f), args := xs.toArray, argTypes := ats }, ty, pos, af, none⟩ :: rest) l m n := ad_callv hc hr ha hd k
theorem ad_callv_on2 {ol : List Oper} {done : List Keys} {j dj : Nat} {want b : Bool} (hj : (ol.toArray[j]?).bind (·.dst) = some dj) (hb : lk .dead l dj = .b b) (hw : b = want)
    (ha : ArgsX (lk .dead l) (lk .gone m) xs args) (hd : Nat.blt d cx.N = true) (hc : Con P f args [] (fun rs all => rs = rs0 ∧ all = [])) (hr : rs0.all rawAR = true)
    (k : AD P ol cx Q (⟨dj :: rtmps (argR (lk .dead l) xs), [d], (argO (lk .dead l) (lk .gone m) xs).map (·.1), [], []⟩ :: done) rest ((d, mkRes rs0) :: l) m n) :
    AD P ol cx Q done (⟨some d, .call { callee := .value (.func f), args := xs.toArray, argTypes := ats }, ty, pos, af, some (j, want)⟩ :: rest) l m n := ad_callv_on hj hb hw hc hr ha hd k
theorem al_callr2 {wd : Nat} {e : TypeId} {rows : List (List CV)} (ha : Args (lk .dead l) (lk .gone m) (cpi [] n) false xs args) (hd : Nat.blt d cx.N = true) (hc : Con P f args [] (fun rs all => rs = [.one (.own 0)] ∧ all = [.row wd e rows]))
    (k : AL P ops cx Q rest ((d, .own n) :: l) ((n, .row wd e rows) :: m) (n + 1)) :
    AL P ops cx Q (⟨some d, .call { callee := .value (.func f), args := xs.toArray, argTypes := ats }, ty, pos, af, none⟩ :: rest) l m n := al_callr hc ha hd k
theorem is_ad {ol todo : List Oper} {done : List Keys} (h : AD P ol cx Q done todo l m n) : AD P ol cx Q done todo l m n := h

section
variable {ol : List Oper} {done : List Keys} {x y z : Operand} {t t' : TypeId} {k : Nat} {gd : Option (Nat × Bool)}
theorem isd_move (h : AD P ol cx Q done (⟨some d, .move x, ty, pos, af, gd⟩ :: rest) l m n) : AD P ol cx Q done (⟨some d, .move x, ty, pos, af, gd⟩ :: rest) l m n := h
theorem isd_assign (h : AD P ol cx Q done (⟨some d, .assign x, ty, pos, af, gd⟩ :: rest) l m n) : AD P ol cx Q done (⟨some d, .assign x, ty, pos, af, gd⟩ :: rest) l m n := h
theorem isd_pick (h : AD P ol cx Q done (⟨some d, .pick x y z, ty, pos, af, gd⟩ :: rest) l m n) : AD P ol cx Q done (⟨some d, .pick x y z, ty, pos, af, gd⟩ :: rest) l m n := h
theorem isd_load (h : AD P ol cx Q done (⟨some d, .load t x, ty, pos, af, gd⟩ :: rest) l m n) : AD P ol cx Q done (⟨some d, .load t x, ty, pos, af, gd⟩ :: rest) l m n := h
theorem isd_fa (h : AD P ol cx Q done (⟨some d, .fieldAddr t x k, ty, pos, af, gd⟩ :: rest) l m n) : AD P ol cx Q done (⟨some d, .fieldAddr t x k, ty, pos, af, gd⟩ :: rest) l m n := h
theorem isd_bin {op : BinOp} (h : AD P ol cx Q done (⟨some d, .binOp op t x y t', ty, pos, af, gd⟩ :: rest) l m n) : AD P ol cx Q done (⟨some d, .binOp op t x y t', ty, pos, af, gd⟩ :: rest) l m n := h
theorem is_bs {k : Nat} {ps : Array (Nat × Operand)} (h : AL P ops cx Q (⟨some d, .buildSlice t k ps, ty, pos, af, none⟩ :: rest) l m n) : AL P ops cx Q (⟨some d, .buildSlice t k ps, ty, pos, af, none⟩ :: rest) l m n := h
theorem isd_ia (h : AD P ol cx Q done (⟨some d, .indexAddr t x y, ty, pos, af, gd⟩ :: rest) l m n) : AD P ol cx Q done (⟨some d, .indexAddr t x y, ty, pos, af, gd⟩ :: rest) l m n := h
theorem is_ia (h : AL P ops cx Q (⟨some d, .indexAddr t x y, ty, pos, af, gd⟩ :: rest) l m n) : AL P ops cx Q (⟨some d, .indexAddr t x y, ty, pos, af, gd⟩ :: rest) l m n := h
theorem isd_gd {op : Op} {j : Nat} {want : Bool} (h : AD P ol cx Q done (⟨some d, op, ty, pos, af, some (j, want)⟩ :: rest) l m n) : AD P ol cx Q done (⟨some d, op, ty, pos, af, some (j, want)⟩ :: rest) l m n := h
theorem isd_call {f : FuncId} {args : Array Operand} {ats : Array TypeId} (h : AD P ol cx Q done (⟨some d, .call { callee := .value (.func f), args := args, argTypes := ats }, ty, pos, af, gd⟩ :: rest) l m n) : AD P ol cx Q done (⟨some d, .call { callee := .value (.func f), args := args, argTypes := ats }, ty, pos, af, gd⟩ :: rest) l m n := h
theorem is_call {f : FuncId} {args : Array Operand} {ats : Array TypeId} (h : AL P ops cx Q (⟨some d, .call { callee := .value (.func f), args := args, argTypes := ats }, ty, pos, af, none⟩ :: rest) l m n) : AL P ops cx Q (⟨some d, .call { callee := .value (.func f), args := args, argTypes := ats }, ty, pos, af, none⟩ :: rest) l m n := h
end
end
end Go.Proofs.Ytokhfcfnhgianaa
