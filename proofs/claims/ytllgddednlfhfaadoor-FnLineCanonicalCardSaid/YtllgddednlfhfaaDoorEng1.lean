/-
  The abstract states of this proof engine and what they denote: nothing here speaks of a particular program.
-/
import Derived.Test.YtllgddednlfhfaaDoorGlob
namespace Go.Proofs.YtllgddednlfhfaaDoor
open Go.RowKit
set_option linter.unusedVariables false

/-- What one cell holds, seen as data. 'sl wd rows': a slice whose elements are rows of 'wd' cells. -/
inductive CV where
  | raw (v : Value)
  | sl (wd : Nat) (rows : List (List CV))

/-- The denotation of a cell's data in a world, read in the zone Z of blocks that stay as they are. -/
inductive DC (Z : Nat → Prop) (w : World) : CV → Value → Prop where
  | raw (v : Value) (h : v.oneCell' = true) : DC Z w (.raw v) v
  | nil (wd : Nat) (ao : Option Addr) (cap : Nat) (h : cap ≤ maxLen) : DC Z w (.sl wd []) (.slice ao 0 cap)
  | sl (wd : Nat) (rows : List (List CV)) (b off n cap : Nat) (us : List Value) (hn : rows.length = n) (hw : ∀ r ∈ rows, r.length = wd) (hz : Z b)
      (hc : n ≤ cap) (hm : cap ≤ maxLen) (hl : us.length = rows.flatten.length)
      (hcell : ∀ k u, us[k]? = some u → w.cell? ⟨b, off + k, none⟩ = some u)
      (hd : ∀ (k : Nat) (h : k < rows.flatten.length) (h' : k < us.length), DC Z w (rows.flatten[k]) (us[k])) :
      DC Z w (.sl wd rows) (.slice (some ⟨b, off, none⟩) n cap)

/-- The same, a list of cells. -/
def DL (Z : Nat → Prop) (w : World) : List CV → List Value → Prop
  | [], [] => True
  | x :: xs, u :: us => DC Z w x u ∧ DL Z w xs us
  | _, _ => False

theorem DL.len {Z : Nat → Prop} {w : World} : ∀ {xs : List CV} {us : List Value}, DL Z w xs us → us.length = xs.length
  | [], [], _ => rfl
  | _ :: _, _ :: _, h => by simp [DL.len h.2]
  | [], _ :: _, h => h.elim
  | _ :: _, [], h => h.elim

theorem DL.at {Z : Nat → Prop} {w : World} : ∀ {xs : List CV} {us : List Value}, DL Z w xs us → ∀ (k : Nat) (h : k < xs.length) (h' : k < us.length), DC Z w (xs[k]) (us[k])
  | x :: xs, u :: us, h, 0, _, _ => h.1
  | x :: xs, u :: us, h, k + 1, h1, h2 => DL.at h.2 k (by simpa using h1) (by simpa using h2)

theorem DL.mk {Z : Nat → Prop} {w : World} : ∀ {xs : List CV} {us : List Value}, us.length = xs.length → (∀ (k : Nat) (h : k < xs.length) (h' : k < us.length), DC Z w (xs[k]) (us[k])) → DL Z w xs us
  | [], [], _, _ => trivial
  | x :: xs, u :: us, hl, h => ⟨h 0 (by simp) (by simp), DL.mk (by simpa using hl) (fun k h1 h2 => h (k + 1) (by simpa using h1) (by simpa using h2))⟩
  | [], _ :: _, hl, _ => by simp at hl
  | _ :: _, [], hl, _ => by simp at hl

theorem DL.append {Z : Nat → Prop} {w : World} : ∀ {xs : List CV} {us : List Value} {ys : List CV} {vs : List Value}, DL Z w xs us → DL Z w ys vs → DL Z w (xs ++ ys) (us ++ vs)
  | [], [], _, _, _, h => h
  | _ :: _, _ :: _, _, _, h, h2 => ⟨h.1, DL.append h.2 h2⟩
  | [], _ :: _, _, _, h, _ => h.elim
  | _ :: _, [], _, _, h, _ => h.elim

theorem DL.take {Z : Nat → Prop} {w : World} (n : Nat) {xs : List CV} {us : List Value} (h : DL Z w xs us) : DL Z w (xs.take n) (us.take n) :=
  DL.mk (by simp [h.len]) fun k h1 h2 => by
    rw [List.getElem_take, List.getElem_take]
    exact h.at k _ _

theorem DL.drop {Z : Nat → Prop} {w : World} (n : Nat) {xs : List CV} {us : List Value} (h : DL Z w xs us) : DL Z w (xs.drop n) (us.drop n) :=
  DL.mk (by simp [h.len]) fun k h1 h2 => by
    rw [List.getElem_drop, List.getElem_drop]
    exact h.at _ _ _

theorem DC.one {Z : Nat → Prop} {w : World} {x : CV} {v : Value} (h : DC Z w x v) : v.oneCell' = true := by
  cases h <;> first | assumption | rfl

theorem DL.one {Z : Nat → Prop} {w : World} {xs : List CV} {us : List Value} (h : DL Z w xs us) : ∀ u ∈ us, u.oneCell' = true := by
  intro u hu
  obtain ⟨k, hk, rfl⟩ := List.getElem_of_mem hu
  exact (h.at k (by rw [← h.len]; exact hk) hk).one

/-- The blocks of the zone hold in w' what they held in w. -/
def Same (Z : Nat → Prop) (w w' : World) : Prop := ∀ g, Z g → w'.heap[g]? = w.heap[g]?

theorem Same.refl (Z : Nat → Prop) (w : World) : Same Z w w := fun _ _ => rfl
theorem Same.cell {Z : Nat → Prop} {w w' : World} (h : Same Z w w') {b o : Nat} (hz : Z b) : w'.cell? ⟨b, o, none⟩ = w.cell? ⟨b, o, none⟩ :=
  World.cell?_of_block (h b hz)

theorem DC.mono {Z Z' : Nat → Prop} {w w' : World} (hZ : ∀ g, Z g → Z' g) (hs : Same Z w w') {x : CV} {v : Value} (h : DC Z w x v) : DC Z' w' x v := by
  induction h with
  | raw v h => exact .raw v h
  | nil wd ao cap h => exact .nil wd ao cap h
  | sl wd rows b off n cap us hn hw hz hc hm hl hcell hd ih =>
    exact .sl wd rows b off n cap us hn hw (hZ b hz) hc hm hl (fun k u hu => (hs.cell hz).trans (hcell k u hu)) ih

theorem DL.mono {Z Z' : Nat → Prop} {w w' : World} (hZ : ∀ g, Z g → Z' g) (hs : Same Z w w') {xs : List CV} {us : List Value} (h : DL Z w xs us) : DL Z' w' xs us :=
  DL.mk h.len fun k h1 h2 => (h.at k h1 h2).mono hZ hs

/-- The listed variables' cells lie in the zone and hold what is known of them. -/
def Gl (Z : Nat → Prop) (w : World) : Prop := ∀ q ∈ globs, Z q.b ∧ ∃ o, w.heap[q.b]? = some o ∧ q.ok o
theorem Gl.mono {Z Z' : Nat → Prop} {w w' : World} (hZ : ∀ g, Z g → Z' g) (hs : Same Z w w') (h : Gl Z w) : Gl Z' w' := fun q hq => by
  obtain ⟨h1, v, h2, h3⟩ := h q hq
  exact ⟨hZ _ h1, v, (hs _ h1).trans h2, h3⟩

/-! ### slots -/

/-- What a field or a simple slot holds. 'own t': the slice (or the map ..) of object t. 'ref t o': the address of cell o of object t. 'el t wd i k': of cell k of its element i. 'imm xs': an address in the zone, whose cells from there on read as xs. -/
inductive A1 where
  | c (x : CV)
  | own (t : Nat)
  | ref (t off : Nat)
  | el (t wd i k : Nat)
  | imm (xs : List CV)
  | fn (f : FuncId) (recv : Option (Nat × Nat)) (caps : List (List CV))
  | pr (p : Value → Prop)

inductive AR where
  | one (x : A1)
  | agg (xs : List A1)

inductive AV where
  | r (x : AR)
  | tup (xs : List AR)
  | dead

abbrev AV.raw (v : Value) : AV := .r (.one (.c (.raw v)))
abbrev AV.i (n : Int) : AV := .raw (.int .i64 n)
abbrev AV.b (b : Bool) : AV := .raw (.bool b)
abbrev AV.str (s : List UInt8) : AV := .raw (.string ⟨s.toArray⟩)
abbrev AV.c (x : CV) : AV := .r (.one (.c x))
abbrev AV.sl (wd : Nat) (rows : List (List CV)) : AV := .c (.sl wd rows)
abbrev AV.own (t : Nat) : AV := .r (.one (.own t))
abbrev AV.ref (t off : Nat) : AV := .r (.one (.ref t off))
abbrev AV.el (t wd i k : Nat) : AV := .r (.one (.el t wd i k))
abbrev AV.imm (xs : List CV) : AV := .r (.one (.imm xs))
abbrev AV.agg (xs : List A1) : AV := .r (.agg xs)

/-- An object of the call's own (or one that it may write): by a tag. -/
inductive OB where
  | gone
  | row (wd : Nat) (e : TypeId) (rows : List (List CV))
  | froz (wd : Nat) (rows : List (List CV))
  | box (e : TypeId) (cells : List A1)
  | raw (o : Obj)

def OB.live : OB → Bool
  | .row .. | .box .. | .raw _ => true
  | _ => false

/-- The place that a slice or a pointer leads to. -/
def Value.place : Value → Option Addr
  | .slice (some a) _ _ => some a
  | .pointer (some a) => some a
  | .map (some r) => some ⟨r, 0, none⟩
  | _ => none

def blk (v : Value) : Option Nat := (Value.place v).map (·.block)

/-- A captured variable: an address in the zone. -/
def DI (Z : Nat → Prop) (w : World) (xs : List CV) (v : Value) : Prop := ∃ b off us, v = .pointer (some ⟨b, off, none⟩) ∧ Z b ∧ DL Z w xs us ∧ ∀ k u, us[k]? = some u → w.cell? ⟨b, off + k, none⟩ = some u
def DIL (Z : Nat → Prop) (w : World) : List (List CV) → List Value → Prop
  | [], [] => True
  | x :: xs, u :: us => DI Z w x u ∧ DIL Z w xs us
  | _, _ => False
theorem DI.mono {Z Z' : Nat → Prop} {w w' : World} (hZ : ∀ g, Z g → Z' g) (hs : Same Z w w') {xs : List CV} {v : Value} (h : DI Z w xs v) : DI Z' w' xs v := by
  obtain ⟨b, off, us, h1, h2, h3, h4⟩ := h
  exact ⟨b, off, us, h1, hZ b h2, h3.mono hZ hs, fun k u hu => (hs.cell h2).trans (h4 k u hu)⟩
theorem DIL.mono {Z Z' : Nat → Prop} {w w' : World} (hZ : ∀ g, Z g → Z' g) (hs : Same Z w w') : ∀ {xs : List (List CV)} {us : List Value}, DIL Z w xs us → DIL Z' w' xs us
  | [], [], _ => trivial
  | _ :: _, _ :: _, h => ⟨h.1.mono hZ hs, DIL.mono hZ hs h.2⟩
  | [], _ :: _, h => h.elim
  | _ :: _, [], h => h.elim
/-- What stands ahead of a function value's arguments: nothing, or the address of cell 'off' of object t. -/
def DF (ρ : Nat → Value) : Option (Nat × Nat) → List Value → Prop
  | none, fs => fs = []
  | some (t, off), fs => ∃ g o, Value.place (ρ t) = some ⟨g, o, none⟩ ∧ fs = [.pointer (some ⟨g, o + off, none⟩)]

def D1 (ρ : Nat → Value) (Z : Nat → Prop) (w : World) : A1 → Value → Prop
  | .fn f r caps, v => ∃ fs cs, v = .func (.func f) fs.toArray cs.toArray ∧ DF ρ r fs ∧ DIL Z w caps cs
  | .pr p, v => p v ∧ v.oneCell' = true
  | .c x, v => DC Z w x v
  | .own t, v => v = ρ t ∧ v.oneCell' = true
  | .ref t off, v => ∃ g o, Value.place (ρ t) = some ⟨g, o, none⟩ ∧ v = .pointer (some ⟨g, o + off, none⟩)
  | .el t wd i k, v => ∃ g o, Value.place (ρ t) = some ⟨g, o, none⟩ ∧ v = .pointer (some ⟨g, o + (i * wd + k), none⟩)
  | .imm xs, v => ∃ b off us, v = .pointer (some ⟨b, off, none⟩) ∧ Z b ∧ DL Z w xs us ∧ ∀ k u, us[k]? = some u → w.cell? ⟨b, off + k, none⟩ = some u

def D1L (ρ : Nat → Value) (Z : Nat → Prop) (w : World) : List A1 → List Value → Prop
  | [], [] => True
  | x :: xs, u :: us => D1 ρ Z w x u ∧ D1L ρ Z w xs us
  | _, _ => False

def DR (ρ : Nat → Value) (Z : Nat → Prop) (w : World) : AR → Value → Prop
  | .one x, v => D1 ρ Z w x v
  | .agg xs, v => ∃ us : List Value, v = .agg us.toArray ∧ D1L ρ Z w xs us

def DRL (ρ : Nat → Value) (Z : Nat → Prop) (w : World) : List AR → List Value → Prop
  | [], [] => True
  | x :: xs, u :: us => DR ρ Z w x u ∧ DRL ρ Z w xs us
  | _, _ => False

def DA (ρ : Nat → Value) (Z : Nat → Prop) (w : World) : AV → Value → Prop
  | .r x, v => DR ρ Z w x v
  | .tup xs, v => ∃ us : List Value, v = .tuple us.toArray ∧ DRL ρ Z w xs us
  | .dead, _ => True

/-- A map's value. -/
def mapV (o : Obj) (v : Value) (g : Nat) : Prop :=
  match o with
  | .map _ _ => v = .map (some g)
  | _ => True

def DO (ρ : Nat → Value) (Z : Nat → Prop) (w : World) (t : Nat) : OB → Prop
  | .gone => True
  | .row wd e rows => (∀ r ∈ rows, r.length = wd) ∧ ((ρ t = .slice none 0 0 ∧ rows = []) ∨
      ∃ g off cap cur us, ρ t = .slice (some ⟨g, off, none⟩) rows.length cap ∧ w.heap[g]? = some (.cells cur e (0, 0)) ∧ rows.length ≤ cap ∧ cap ≤ maxLen ∧
        off + cap * wd ≤ cur.size ∧ DL Z w rows.flatten us ∧ ∀ k u, us[k]? = some u → cur[off + k]? = some u)
  | .froz wd rows => DC Z w (.sl wd rows) (ρ t)
  | .box e cells => ∃ g us, ρ t = .pointer (some ⟨g, 0, none⟩) ∧ w.heap[g]? = some (.cells us.toArray e (0, 0)) ∧ D1L ρ Z w cells us
  | .raw o => ∃ g, blk (ρ t) = some g ∧ w.heap[g]? = some o ∧ mapV o (ρ t) g

/-! ### stability -/
section
variable {ρ ρ' : Nat → Value} {Z Z' : Nat → Prop} {w w' : World}

theorem D1.one {x : A1} {v : Value} (h : D1 ρ Z w x v) : v.oneCell' = true := by
  cases x with
  | c x => exact DC.one h
  | own t => exact h.2
  | ref t off => obtain ⟨g, o, _, rfl⟩ := h; rfl
  | el t wd i k => obtain ⟨g, o, _, rfl⟩ := h; rfl
  | imm xs => obtain ⟨b, off, us, rfl, _⟩ := h; rfl
  | fn f r caps => obtain ⟨fs, cs, rfl, _⟩ := h; rfl
  | pr p => exact h.2

theorem D1L.one : ∀ {xs : List A1} {us : List Value}, D1L ρ Z w xs us → ∀ u ∈ us, u.oneCell' = true
  | [], [], _, _, hu => by cases hu
  | x :: xs, u :: us, h, v, hv => by
    cases hv with
    | head => exact D1.one h.1
    | tail _ hv => exact D1L.one h.2 v hv
  | [], _ :: _, h, _, _ => h.elim
  | _ :: _, [], h, _, _ => h.elim

theorem D1L.len : ∀ {xs : List A1} {us : List Value}, D1L ρ Z w xs us → us.length = xs.length
  | [], [], _ => rfl
  | _ :: _, _ :: _, h => by simp [D1L.len h.2]
  | [], _ :: _, h => h.elim
  | _ :: _, [], h => h.elim

/-- Which tags a value names. -/
def A1.tag : A1 → Option Nat
  | .own t | .ref t _ | .el t _ _ _ => some t
  | .fn _ r _ => r.map (·.1)
  | _ => none
def AR.tags : AR → List Nat
  | .one x => x.tag.toList
  | .agg xs => xs.flatMap (·.tag.toList)

theorem D1.mono (hZ : ∀ g, Z g → Z' g) (hs : Same Z w w') {x : A1} (hr : ∀ t, x.tag = some t → ρ' t = ρ t) {v : Value} (h : D1 ρ Z w x v) : D1 ρ' Z' w' x v := by
  cases x with
  | c x => exact DC.mono hZ hs h
  | own t => exact ⟨by rw [hr t rfl]; exact h.1, h.2⟩
  | ref t off => obtain ⟨g, o, h1, h2⟩ := h; exact ⟨g, o, by rw [hr t rfl]; exact h1, h2⟩
  | el t wd i k => obtain ⟨g, o, h1, h2⟩ := h; exact ⟨g, o, by rw [hr t rfl]; exact h1, h2⟩
  | imm xs =>
    obtain ⟨b, off, us, h1, h2, h3, h4⟩ := h
    exact ⟨b, off, us, h1, hZ b h2, h3.mono hZ hs, fun k u hu => (hs.cell h2).trans (h4 k u hu)⟩
  | fn f r caps =>
    obtain ⟨fs, cs, h1, h2, h3⟩ := h
    refine ⟨fs, cs, h1, ?_, h3.mono hZ hs⟩
    cases r with
    | none => exact h2
    | some p => obtain ⟨g, o, h4, h5⟩ := h2; exact ⟨g, o, by rw [hr p.1 rfl]; exact h4, h5⟩
  | pr p => exact h

theorem D1L.mono (hZ : ∀ g, Z g → Z' g) (hs : Same Z w w') : ∀ {xs : List A1} {us : List Value}, (∀ x ∈ xs, ∀ t, x.tag = some t → ρ' t = ρ t) → D1L ρ Z w xs us → D1L ρ' Z' w' xs us
  | [], [], _, _ => trivial
  | x :: xs, u :: us, hr, h => ⟨D1.mono hZ hs (hr x (.head _)) h.1, D1L.mono hZ hs (fun y hy => hr y (.tail _ hy)) h.2⟩
  | [], _ :: _, _, h => h.elim
  | _ :: _, [], _, h => h.elim

theorem DR.mono (hZ : ∀ g, Z g → Z' g) (hs : Same Z w w') {x : AR} (hr : ∀ t ∈ x.tags, ρ' t = ρ t) {v : Value} (h : DR ρ Z w x v) : DR ρ' Z' w' x v := by
  cases x with
  | one x => exact D1.mono hZ hs (fun t ht => hr t (by simp [AR.tags, ht])) h
  | agg xs =>
    obtain ⟨us, h1, h2⟩ := h
    exact ⟨us, h1, D1L.mono hZ hs (fun x hx t ht => hr t (by simp only [AR.tags, List.mem_flatMap]; exact ⟨x, hx, by simp [ht]⟩)) h2⟩

theorem DRL.mono (hZ : ∀ g, Z g → Z' g) (hs : Same Z w w') : ∀ {xs : List AR} {us : List Value}, (∀ x ∈ xs, ∀ t ∈ x.tags, ρ' t = ρ t) → DRL ρ Z w xs us → DRL ρ' Z' w' xs us
  | [], [], _, _ => trivial
  | x :: xs, u :: us, hr, h => ⟨DR.mono hZ hs (hr x (.head _)) h.1, DRL.mono hZ hs (fun y hy => hr y (.tail _ hy)) h.2⟩
  | [], _ :: _, _, h => h.elim
  | _ :: _, [], _, h => h.elim

def AV.tags : AV → List Nat
  | .r x => x.tags
  | .tup xs => xs.flatMap (·.tags)
  | .dead => []

theorem DA.mono (hZ : ∀ g, Z g → Z' g) (hs : Same Z w w') {x : AV} (hr : ∀ t ∈ x.tags, ρ' t = ρ t) {v : Value} (h : DA ρ Z w x v) : DA ρ' Z' w' x v := by
  cases x with
  | r x => exact DR.mono hZ hs hr h
  | tup xs =>
    obtain ⟨us, h1, h2⟩ := h
    exact ⟨us, h1, DRL.mono hZ hs (fun x hx t ht => hr t (by simp only [AV.tags, List.mem_flatMap]; exact ⟨x, hx, ht⟩)) h2⟩
  | dead => trivial

def OB.tags : OB → List Nat
  | .box _ cells => cells.flatMap (·.tag.toList)
  | _ => []

/-- An object whose block (if it is live) holds what it held. -/
theorem DO.mono (hZ : ∀ g, Z g → Z' g) (hs : Same Z w w') {t : Nat} {ob : OB} (ht : ρ' t = ρ t) (hr : ∀ t ∈ ob.tags, ρ' t = ρ t)
    (hb : ob.live = true → ∀ g, blk (ρ t) = some g → w'.heap[g]? = w.heap[g]?) (h : DO ρ Z w t ob) : DO ρ' Z' w' t ob := by
  cases ob with
  | gone => trivial
  | row wd e rows =>
    refine ⟨h.1, ?_⟩
    rw [ht]
    rcases h.2 with h2 | ⟨g, off, cap, cur, us, h1, h2, h3, h4, h5, h6, h7⟩
    · exact .inl h2
    · exact .inr ⟨g, off, cap, cur, us, h1, by rw [hb rfl g (by rw [h1]; rfl)]; exact h2, h3, h4, h5, h6.mono hZ hs, h7⟩
  | froz wd rows => show DC Z' w' (.sl wd rows) (ρ' t); rw [ht]; exact DC.mono hZ hs h
  | box e cells =>
    obtain ⟨g, us, h1, h2, h3⟩ := h
    exact ⟨g, us, by rw [ht]; exact h1, by rw [hb rfl g (by rw [h1]; rfl)]; exact h2, D1L.mono hZ hs (fun x hx t' ht' => hr t' (by simp only [OB.tags, List.mem_flatMap]; exact ⟨x, hx, by simp [ht']⟩)) h3⟩
  | raw o =>
    obtain ⟨g, h1, h2, h3⟩ := h
    exact ⟨g, by rw [ht]; exact h1, by rw [hb rfl g h1]; exact h2, by rw [ht]; exact h3⟩
end

end Go.Proofs.YtllgddednlfhfaaDoor
