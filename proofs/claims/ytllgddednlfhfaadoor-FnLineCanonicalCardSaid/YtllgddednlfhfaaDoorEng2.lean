/-
  The invariant between an abstract state and the machine's state, and how it is kept.
-/
import Derived.Test.YtllgddednlfhfaaDoorEng1
namespace Go.Proofs.YtllgddednlfhfaaDoor
open Go.RowKit
set_option linter.unusedVariables false

/-- What stays the same in one call: the number of slots; the heap's size as it began; which old blocks it may write; the world as it began; the objects that it was handed (tags below m0), and where they lie. -/
structure Cx where
  N : Nat
  B : Nat
  M : Nat → Prop
  w0 : World
  m0 : Nat
  ρ0 : Nat → Value
  Z0 : Nat → Prop

def lk {α : Type} (d : α) : List (Nat × α) → Nat → α
  | [], _ => d
  | (k, x) :: l, t => cond (Nat.beq k t) x (lk d l t)

def lkf {α : Type} (f : Nat → α) : List (Nat × α) → Nat → α
  | [], t => f t
  | (k, x) :: l, t => cond (Nat.beq k t) x (lkf f l t)

theorem lkf_lk {α : Type} (d : α) (l : List (Nat × α)) : ∀ u : List (Nat × α), lkf (lk d l) u = lk d (u ++ l)
  | [] => rfl
  | (k, x) :: u => by
    funext t
    show cond _ _ (lkf (lk d l) u t) = cond _ _ (lk d (u ++ l) t)
    rw [lkf_lk d l u]

theorem beq_self (t : Nat) : Nat.beq t t = true := Nat.beq_refl t
theorem beq_ne {k t : Nat} (h : k ≠ t) : Nat.beq k t = false := by
  cases hb : Nat.beq k t with
  | false => rfl
  | true => exact absurd (Nat.eq_of_beq_eq_true hb) h

theorem lkf_one {α : Type} (f : Nat → α) (k : Nat) (x : α) (t : Nat) : lkf f [(k, x)] t = if t = k then x else f t := by
  show cond (Nat.beq k t) x (f t) = _
  by_cases h : t = k
  · subst h; rw [beq_self]; simp
  · rw [beq_ne (Ne.symm h), if_neg h]; rfl

theorem lkf_two {α : Type} (f : Nat → α) (k j : Nat) (x y : α) (t : Nat) : lkf f [(k, x), (j, y)] t = if t = k then x else if t = j then y else f t := by
  show cond (Nat.beq k t) x (cond (Nat.beq j t) y (f t)) = _
  by_cases h : t = k
  · subst h; rw [beq_self]; simp
  · rw [beq_ne (Ne.symm h), if_neg h]
    by_cases h2 : t = j
    · subst h2; rw [beq_self]; simp
    · rw [beq_ne (Ne.symm h2), if_neg h2]; rfl

def GlX (cx : Cx) : Prop := Gl cx.Z0 cx.w0 ∧ ∀ g, cx.Z0 g → g < cx.B ∧ ¬ cx.M g
def GZ (cx : Cx) (Z : Nat → Prop) : Prop := (∀ g, cx.Z0 g → Z g) ∧ GlX cx
structure Good (cx : Cx) (S : Nat → AV) (O : Nat → OB) (V : Nat → Prop) (a : Act) (w : World) (ρ : Nat → Value) (Z : Nat → Prop) : Prop where
  size : a.tmps.size = cx.N
  defers : a.defers = []
  slot : ∀ t, DA ρ Z w (S t) (a.tmps.getD t undef)
  obj : ∀ t, DO ρ Z w t (O t)
  sep : ∀ t t' g, (O t).live = true → (O t').live = true → blk (ρ t) = some g → blk (ρ t') = some g → t = t'
  out : ∀ t g, (O t).live = true → blk (ρ t) = some g → ¬ Z g ∧ (cx.B ≤ g ∨ cx.M g)
  zlt : ∀ g, Z g → g < w.heap.size
  virgin : ∀ t, V t → O t = .gone ∧ (∀ s, t ∉ (S s).tags) ∧ ∀ s, t ∉ (O s).tags
  os : w.os = cx.w0.os
  tape : w.tape = cx.w0.tape
  output : w.output = cx.w0.output
  big : cx.B ≤ w.heap.size
  old : ∀ g, g < cx.B → ¬ cx.M g → w.heap[g]? = cx.w0.heap[g]?
  pin : ∀ i, i < cx.m0 → ρ i = cx.ρ0 i
  vlo : ∀ t, V t → cx.m0 ≤ t
  zin : GZ cx Z
  zout : ∀ g, Z g → cx.Z0 g ∨ cx.B ≤ g ∨ cx.M g

theorem Good.gl {cx : Cx} {S : Nat → AV} {O : Nat → OB} {V : Nat → Prop} {a : Act} {w : World} {ρ : Nat → Value} {Z : Nat → Prop} (h : Good cx S O V a w ρ Z) : Gl Z w :=
  Gl.mono h.zin.1 (fun g hg => h.old g (h.zin.2.2 g hg).1 (h.zin.2.2 g hg).2) h.zin.2.1

def Inv (cx : Cx) (S : Nat → AV) (O : Nat → OB) (V : Nat → Prop) (a : Act) (w : World) : Prop := ∃ ρ Z, Good cx S O V a w ρ Z

/-- A constant, seen as data. -/
def cav : Value → AV
  | .agg cs => cond (cs.toList.all (·.oneCell')) (.agg (cs.toList.map fun v => .c (.raw v))) .dead
  | .tuple _ => .dead
  | v => .raw v

/-- The value of an operand, seen as data. -/
def vl (S : Nat → AV) : Operand → AV
  | .tmp t => S t
  | .const v => cav v
  | .func f => .raw (.func (.func f) #[] #[])
  | .global _ => .dead
def Ag (S : Nat → AV) (x : Operand) (av : AV) : Prop := vl S x = av

theorem d1l_raws {ρ : Nat → Value} {Z : Nat → Prop} {w : World} : ∀ {zs : List Value}, zs.all (·.oneCell') = true → D1L ρ Z w (zs.map fun v => .c (.raw v)) zs
  | [], _ => trivial
  | z :: zs, h => by
    simp only [List.all_cons, Bool.and_eq_true] at h
    exact ⟨DC.raw z h.1, d1l_raws h.2⟩

theorem cav_ok (v : Value) : (cav v).tags = [] ∧ ∀ ρ Z w, DA ρ Z w (cav v) v := by
  cases v with
  | agg cs =>
    simp only [cav]
    cases h : cs.toList.all (·.oneCell') with
    | false => exact ⟨rfl, fun _ _ _ => trivial⟩
    | true =>
      refine ⟨?_, fun _ _ _ => ⟨cs.toList, by simp, d1l_raws h⟩⟩
      simp only [cond_true, AV.tags, AR.tags]
      induction cs.toList with
      | nil => rfl
      | cons x xs ih => simp [A1.tag]
  | tuple vs => exact ⟨rfl, fun _ _ _ => trivial⟩
  | _ => exact ⟨rfl, fun _ _ _ => DC.raw _ rfl⟩

section
variable {cx : Cx} {S : Nat → AV} {O : Nat → OB} {V : Nat → Prop} {a : Act} {w w' : World} {ρ : Nat → Value} {Z : Nat → Prop}

theorem Good.ag (h : Good cx S O V a w ρ Z) {x : Operand} {av : AV} (hx : Ag S x av) : DA ρ Z w av (a.eval x) := by
  cases hx
  cases x with
  | tmp t => exact h.slot t
  | const v => exact (cav_ok v).2 ρ Z w
  | func f => exact DC.raw _ rfl
  | global g => trivial

theorem Good.agv (h : Good cx S O V a w ρ Z) {x : Operand} {av : AV} (hx : Ag S x av) : ∀ t ∈ av.tags, ¬ V t := by
  intro t ht hv
  cases hx
  cases x with
  | tmp s => exact (h.virgin t hv).2.1 s ht
  | const v => rw [vl, (cav_ok v).1] at ht; cases ht
  | func f => cases ht
  | global g => cases ht

theorem Good.put (h : Good cx S O V a w ρ Z) {d : Nat} (hd : d < cx.N) {x : AV} {v : Value} (hx : DA ρ Z w x v) (hv : ∀ t ∈ x.tags, ¬ V t) :
    Good cx (lkf S [(d, x)]) O V (a.put (some d) v) w ρ Z where
  size := by simpa [Act.put] using h.size
  defers := h.defers
  slot t := by
    rw [lkf_one]
    by_cases e : t = d
    · subst e
      rw [if_pos rfl]
      have : (a.put (some t) v).tmps.getD t undef = v := by
        have := h.size
        simp [Act.put, Array.getD, Array.size_setIfInBounds, this, hd]
      rw [this]; exact hx
    · rw [if_neg e]
      have : (a.put (some d) v).tmps.getD t undef = a.tmps.getD t undef := by
        simp [Act.put, Array.getD_eq_getD_getElem?, Ne.symm e]
      rw [this]; exact h.slot t
  obj := h.obj
  sep := h.sep
  out := h.out
  zlt := h.zlt
  virgin t ht := by
    obtain ⟨h1, h2, h3⟩ := h.virgin t ht
    refine ⟨h1, fun s => ?_, h3⟩
    rw [lkf_one]
    split
    · exact fun hm => hv t hm ht
    · exact h2 s
  os := h.os
  tape := h.tape
  output := h.output
  big := h.big
  old := h.old
  pin := h.pin
  vlo := h.vlo
  zin := h.zin
  zout := h.zout

theorem Good.put_none (h : Good cx S O V a w ρ Z) (v : Value) : Good cx S O V (a.put none v) w ρ Z := h

/-- The world has grown, the objects' blocks and the zone are as they were. -/
theorem Good.grow (h : Good cx S O V a w ρ Z) (hg : w.grownBy w' none) : Good cx S O V a w' ρ Z where
  size := h.size
  defers := h.defers
  slot t := DA.mono (fun _ hz => hz) (fun g hz => hg.block g (h.zlt g hz) (by simp)) (fun _ _ => rfl) (h.slot t)
  obj t := by
    refine DO.mono (fun _ hz => hz) (fun g hz => hg.block g (h.zlt g hz) (by simp)) rfl (fun _ _ => rfl) (fun hl g hb => ?_) (h.obj t)
    by_cases hlt : g < w.heap.size
    · exact hg.block g hlt (by simp)
    · exfalso
      have ho := h.obj t
      cases hob : O t with
      | gone => rw [hob] at hl; cases hl
      | froz => rw [hob] at hl; cases hl
      | row wd e rows =>
        rw [hob] at ho
        rcases ho.2 with ⟨h1, _⟩ | ⟨g', off, cap, cur, us, h1, h2, _⟩
        · rw [h1] at hb; cases hb
        · rw [h1] at hb; cases hb; exact hlt (Array.getElem?_eq_some_iff.1 h2).1
      | box e cells =>
        rw [hob] at ho
        obtain ⟨g', us, h1, h2, _⟩ := ho
        rw [h1] at hb; cases hb; exact hlt (Array.getElem?_eq_some_iff.1 h2).1
      | raw o =>
        rw [hob] at ho
        obtain ⟨g', h1, h2, _⟩ := ho
        rw [h1] at hb; cases hb; exact hlt (Array.getElem?_eq_some_iff.1 h2).1
  sep := h.sep
  out := h.out
  zlt g hz := Nat.lt_of_lt_of_le (h.zlt g hz) hg.size
  virgin := h.virgin
  os := hg.os.trans h.os
  tape := hg.tape.trans h.tape
  output := hg.output.trans h.output
  big := Nat.le_trans h.big hg.size
  old g hb hm := (hg.block g (Nat.lt_of_lt_of_le hb h.big) (by simp)).trans (h.old g hb hm)
  pin := h.pin
  vlo := h.vlo
  zin := h.zin
  zout := h.zout

/-- A live object's block is there. -/
theorem Good.lt (h : Good cx S O V a w ρ Z) {t g : Nat} (hl : (O t).live = true) (hb : blk (ρ t) = some g) : g < w.heap.size := by
  have ho := h.obj t
  cases hob : O t with
  | gone => rw [hob] at hl; cases hl
  | froz => rw [hob] at hl; cases hl
  | row wd e rows =>
    rw [hob] at ho
    rcases ho.2 with ⟨h1, _⟩ | ⟨g', off, cap, cur, us, h1, h2, _⟩
    · rw [h1] at hb; cases hb
    · rw [h1] at hb; cases hb; exact (Array.getElem?_eq_some_iff.1 h2).1
  | box e cells =>
    rw [hob] at ho
    obtain ⟨g', us, h1, h2, _⟩ := ho
    rw [h1] at hb; cases hb; exact (Array.getElem?_eq_some_iff.1 h2).1
  | raw o =>
    rw [hob] at ho
    obtain ⟨g', h1, h2, _⟩ := ho
    rw [h1] at hb; cases hb; exact (Array.getElem?_eq_some_iff.1 h2).1

/-- Object t's block is written (or new blocks come); its data turns to 'ob'. -/
theorem Good.set (h : Good cx S O V a w ρ Z) {t : Nat} (hl : (O t).live = true) (hg : w.grownBy w' (blk (ρ t))) {ob : OB}
    (hob : DO ρ Z w' t ob) (htags : ∀ s ∈ ob.tags, ¬ V s) : Good cx S (lkf O [(t, ob)]) V a w' ρ Z := by
  have hsame : Same Z w w' := fun g hz => hg.block g (h.zlt g hz) (fun e => (h.out t g hl e.symm).1 hz)
  refine ⟨h.size, h.defers, fun s => DA.mono (fun _ hz => hz) hsame (fun _ _ => rfl) (h.slot s), fun s => ?_, fun s s' g h1 h2 h3 h4 => ?_, fun s g h1 h2 => ?_, fun g hz => Nat.lt_of_lt_of_le (h.zlt g hz) hg.size, fun s hs => ?_, hg.os.trans h.os, hg.tape.trans h.tape, hg.output.trans h.output, Nat.le_trans h.big hg.size, fun g hb hm => ?_, h.pin, h.vlo, h.zin, h.zout⟩
  · rw [lkf_one]
    split
    · rename_i e; subst e; exact hob
    · rename_i e
      refine DO.mono (fun _ hz => hz) hsame rfl (fun _ _ => rfl) (fun hls g hb => hg.block g (h.lt hls hb) (fun e2 => e (h.sep s t g hls hl hb e2.symm))) (h.obj s)
  · have live_of : ∀ s, (lkf O [(t, ob)] s).live = true → (O s).live = true := fun s hs => by
      rw [lkf_one] at hs
      split at hs
      · rename_i e; subst e; exact hl
      · exact hs
    exact h.sep s s' g (live_of s h1) (live_of s' h2) h3 h4
  · rw [lkf_one] at h1
    split at h1
    · rename_i e; subst e; exact h.out s g hl h2
    · exact h.out s g h1 h2
  · obtain ⟨h1, h2, h3⟩ := h.virgin s hs
    have hne : s ≠ t := fun e => by subst e; rw [h1] at hl; cases hl
    refine ⟨by rw [lkf_one, if_neg hne]; exact h1, h2, fun s' => ?_⟩
    rw [lkf_one]
    split
    · exact fun hm => htags s hm hs
    · exact h3 s'
  · exact (hg.block g (Nat.lt_of_lt_of_le hb h.big) (fun e => (h.out t g hl e.symm).2.elim (fun h1 => absurd hb (by omega)) hm)).trans (h.old g hb hm)

/-- A new object under a tag that was not in use. -/
theorem Good.new (h : Good cx S O V a w ρ Z) {t : Nat} (hV : V t) (hg : w.grownBy w' none) {v : Value} {ob : OB}
    (hob : DO (fun s => if s = t then v else ρ s) Z w' t ob) (hblk : ∀ g, blk v = some g → w.heap.size ≤ g) (htags : ∀ s ∈ ob.tags, ¬ V s) :
    Good cx S (lkf O [(t, ob)]) (fun s => V s ∧ s ≠ t) a w' (fun s => if s = t then v else ρ s) Z := by
  have h' := h.grow hg
  obtain ⟨ht1, ht2, ht3⟩ := h.virgin t hV
  have hρ : ∀ s, s ≠ t → (fun s => if s = t then v else ρ s) s = ρ s := fun s e => if_neg e
  have hZt : ∀ g, blk v = some g → ¬ Z g := fun g hb hz => absurd (h.zlt g hz) (by have := hblk g hb; omega)
  refine ⟨h.size, h.defers, fun s => DA.mono (fun _ hz => hz) (Same.refl _ _) (fun t' ht' => hρ t' (fun e => ht2 s (e ▸ ht'))) (h'.slot s), fun s => ?_, fun s s' g h1 h2 h3 h4 => ?_, fun s g h1 h2 => ?_, h'.zlt, fun s hs => ?_, h'.os, h'.tape, h'.output, h'.big, h'.old, fun i hi => (if_neg (fun e => by have := h.vlo t hV; omega)).trans (h.pin i hi), fun s hs => h.vlo s hs.1, h.zin, h.zout⟩
  · rw [lkf_one]
    split
    · rename_i e; subst e; exact hob
    · rename_i e
      exact DO.mono (fun _ hz => hz) (Same.refl _ _) (hρ s e) (fun t' ht' => hρ t' (fun e2 => ht3 s (e2 ▸ ht'))) (fun _ _ _ => rfl) (h'.obj s)
  · rw [lkf_one] at h1 h2
    by_cases e1 : s = t <;> by_cases e2 : s' = t
    · rw [e1, e2]
    · rw [if_neg e2] at h2
      rw [if_pos e1] at h3; rw [if_neg e2] at h4
      have := h.lt h2 h4
      have := hblk g h3
      omega
    · rw [if_neg e1] at h1
      rw [if_neg e1] at h3; rw [if_pos e2] at h4
      have := h.lt h1 h3
      have := hblk g h4
      omega
    · rw [if_neg e1] at h1; rw [if_neg e2] at h2
      rw [if_neg e1] at h3; rw [if_neg e2] at h4
      exact h.sep s s' g h1 h2 h3 h4
  · rw [lkf_one] at h1
    by_cases e : s = t
    · rw [if_pos e] at h2
      exact ⟨hZt g h2, .inl (Nat.le_trans h.big (hblk g h2))⟩
    · rw [if_neg e] at h1 h2
      exact h.out s g h1 h2
  · obtain ⟨hs1, hs2⟩ := hs
    obtain ⟨h1, h2, h3⟩ := h.virgin s hs1
    refine ⟨by rw [lkf_one, if_neg hs2]; exact h1, h2, fun s' => ?_⟩
    rw [lkf_one]
    split
    · exact fun hm => htags s hm hs1
    · exact h3 s'

/-- Object t goes; a new object under a tag not in use takes its block, or a new one. -/
theorem Good.subst (h : Good cx S O V a w ρ Z) {t u : Nat} (hl : (O t).live = true) (hV : V u) (hg : w.grownBy w' (blk (ρ t))) {v : Value} {ob : OB}
    (hob : DO (fun s => if s = u then v else ρ s) Z w' u ob) (hblk : ∀ g, blk v = some g → w.heap.size ≤ g ∨ blk (ρ t) = some g) (htags : ∀ s ∈ ob.tags, ¬ V s) :
    Good cx S (lkf O [(u, ob), (t, .gone)]) (fun s => V s ∧ s ≠ u) a w' (fun s => if s = u then v else ρ s) Z := by
  have hsame : Same Z w w' := fun g hz => hg.block g (h.zlt g hz) (fun e => (h.out t g hl e.symm).1 hz)
  obtain ⟨ht1, ht2, ht3⟩ := h.virgin u hV
  have hut : t ≠ u := fun e => by subst e; rw [ht1] at hl; cases hl
  have hρ : ∀ s, s ≠ u → (fun s => if s = u then v else ρ s) s = ρ s := fun s e => if_neg e
  refine ⟨h.size, h.defers, fun s => DA.mono (fun _ hz => hz) hsame (fun t' ht' => hρ t' (fun e => ht2 s (e ▸ ht'))) (h.slot s), fun s => ?_, fun s s' g h1 h2 h3 h4 => ?_, fun s g h1 h2 => ?_, fun g hz => Nat.lt_of_lt_of_le (h.zlt g hz) hg.size, fun s hs => ?_, hg.os.trans h.os, hg.tape.trans h.tape, hg.output.trans h.output, Nat.le_trans h.big hg.size, fun g hb hm => ?_, fun i hi => (if_neg (fun e => by have := h.vlo u hV; omega)).trans (h.pin i hi), fun s hs => h.vlo s hs.1, h.zin, h.zout⟩
  · rw [lkf_two]
    split
    · rename_i e; subst e; exact hob
    · rename_i e
      split
      · trivial
      · rename_i e2
        exact DO.mono (fun _ hz => hz) hsame (hρ s e) (fun t' ht' => hρ t' (fun e3 => ht3 s (e3 ▸ ht'))) (fun hls g hb => hg.block g (h.lt hls hb) (fun e3 => e2 (h.sep s t g hls hl hb e3.symm))) (h.obj s)
  · rw [lkf_two] at h1 h2
    by_cases e1 : s = u <;> by_cases e2 : s' = u
    · rw [e1, e2]
    · rw [if_neg e2] at h2 h4
      rw [if_pos e1] at h3
      by_cases e3 : s' = t
      · rw [if_pos e3] at h2; cases h2
      · rw [if_neg e3] at h2
        rcases hblk g h3 with hc | hc
        · have := h.lt h2 h4; omega
        · exact absurd (h.sep s' t g h2 hl h4 hc) e3
    · rw [if_neg e1] at h1 h3
      rw [if_pos e2] at h4
      by_cases e3 : s = t
      · rw [if_pos e3] at h1; cases h1
      · rw [if_neg e3] at h1
        rcases hblk g h4 with hc | hc
        · have := h.lt h1 h3; omega
        · exact absurd (h.sep s t g h1 hl h3 hc) e3
    · rw [if_neg e1] at h1 h3
      rw [if_neg e2] at h2 h4
      by_cases e3 : s = t
      · rw [if_pos e3] at h1; cases h1
      · rw [if_neg e3] at h1
        by_cases e4 : s' = t
        · rw [if_pos e4] at h2; cases h2
        · rw [if_neg e4] at h2
          exact h.sep s s' g h1 h2 h3 h4
  · rw [lkf_two] at h1
    by_cases e : s = u
    · rw [if_pos e] at h2
      rcases hblk g h2 with hc | hc
      · exact ⟨fun hz => absurd (h.zlt g hz) (by omega), .inl (Nat.le_trans h.big hc)⟩
      · exact h.out t g hl hc
    · rw [if_neg e] at h1 h2
      by_cases e3 : s = t
      · rw [if_pos e3] at h1; cases h1
      · rw [if_neg e3] at h1
        exact h.out s g h1 h2
  · obtain ⟨hs1, hs2⟩ := hs
    obtain ⟨h1, h2, h3⟩ := h.virgin s hs1
    refine ⟨?_, h2, fun s' => ?_⟩
    · rw [lkf_two, if_neg hs2]
      split
      · rfl
      · exact h1
    · rw [lkf_two]
      split
      · exact fun hm => htags s hm hs1
      · split
        · exact fun hm => by cases hm
        · exact h3 s'
  · exact (hg.block g (Nat.lt_of_lt_of_le hb h.big) (fun e => (h.out t g hl e.symm).2.elim (fun h1 => absurd hb (by omega)) hm)).trans (h.old g hb hm)

/-- An object of the call's own is written no more: its block joins the zone. -/
theorem Good.freeze (h : Good cx S O V a w ρ Z) {t wd : Nat} {e : TypeId} {rows : List (List CV)} (ho : O t = .row wd e rows) :
    Good cx S (lkf O [(t, .froz wd rows)]) V a w ρ (fun g => Z g ∨ blk (ρ t) = some g) := by
  have hl : (O t).live = true := by rw [ho]; rfl
  have hob := h.obj t
  rw [ho] at hob
  refine ⟨h.size, h.defers, fun s => DA.mono (fun _ hz => .inl hz) (Same.refl _ _) (fun _ _ => rfl) (h.slot s), fun s => ?_, fun s s' g h1 h2 h3 h4 => ?_, fun s g h1 h2 => ?_, fun g hz => hz.elim (h.zlt g) (h.lt hl), fun s hs => ?_, h.os, h.tape, h.output, h.big, h.old, h.pin, h.vlo, ⟨fun g hz => .inl (h.zin.1 g hz), h.zin.2⟩, fun g hz => hz.elim (h.zout g) (fun hb => .inr (h.out t g hl hb).2)⟩
  · rw [lkf_one]
    split
    · rename_i e; subst e
      obtain ⟨Z', hZ'⟩ : ∃ Z', Z' = fun g => Z g ∨ blk (ρ s) = some g := ⟨_, rfl⟩
      show DC (fun g => Z g ∨ blk (ρ s) = some g) w (.sl wd rows) (ρ s)
      rw [← hZ']
      rcases hob.2 with ⟨h1, rfl⟩ | ⟨g, off, cap, cur, us, h1, h2, h3, h4, h5, h6, h7⟩
      · rw [h1]; exact .nil wd none 0 (Nat.zero_le _)
      · have h6' : DL Z' w rows.flatten us := h6.mono (fun _ hz => by rw [hZ']; exact .inl hz) (Same.refl _ _)
        have hzg : Z' g := by rw [hZ']; exact .inr (by rw [h1]; rfl)
        rw [h1]
        refine .sl wd rows g off _ cap us rfl hob.1 hzg h3 h4 h6.len (fun k u hu => ?_) (fun k hk hk' => h6'.at k hk hk')
        rw [World.cell?, h2]
        simpa using h7 k u hu
    · rename_i e
      exact DO.mono (fun _ hz => .inl hz) (Same.refl _ _) rfl (fun _ _ => rfl) (fun _ _ _ => rfl) (h.obj s)
  · have live_of : ∀ s, (lkf O [(t, .froz wd rows)] s).live = true → (O s).live = true := fun s hs => by
      rw [lkf_one] at hs
      split at hs
      · cases hs
      · exact hs
    exact h.sep s s' g (live_of s h1) (live_of s' h2) h3 h4
  · rw [lkf_one] at h1
    split at h1
    · cases h1
    · rename_i e
      refine ⟨fun hz => ?_, (h.out s g h1 h2).2⟩
      rcases hz with hz | hz
      · exact (h.out s g h1 h2).1 hz
      · exact e (h.sep s t g h1 hl h2 hz)
  · obtain ⟨h1, h2, h3⟩ := h.virgin s hs
    have hne : s ≠ t := fun e => by subst e; rw [h1] at hl; cases hl
    refine ⟨by rw [lkf_one, if_neg hne]; exact h1, h2, fun s' => ?_⟩
    rw [lkf_one]
    split
    · exact fun hm => by cases hm
    · exact h3 s'
end

end Go.Proofs.YtllgddednlfhfaaDoor
