/- Texts: Glob Eng1 Eng2 Eng3 -/
import Derived.WalkKit
/-
  What the listed package variables hold: none in this seat.
-/
namespace Go.Proofs.Ytokhfcfnhgianaa
/-- A package variable's block, and what is known of it. -/
structure GC where
  b : Nat
  ok : Obj → Prop
def globs : List GC := []
end Go.Proofs.Ytokhfcfnhgianaa
/-
  The abstract states of this proof engine and what they denote: nothing here speaks of a particular program.
-/
namespace Go.Proofs.Ytokhfcfnhgianaa
open Go.RowKit
set_option linter.unusedVariables false

/-- What one cell holds, seen as data. 'sl wd rows': a slice whose elements are rows of 'wd' cells. -/
inductive CV where
  | raw (v : Value)
  | sl (wd : Nat) (rows : List (List CV))
  | blk (e : TypeId) (wd : Nat) (og : Option Nat) (rows : List (List CV))

/-- The denotation of a cell's data in a world, read in the zone Z of blocks that stay as they are. -/
inductive DC (Z : Nat → Prop) (w : World) : CV → Value → Prop where
  | raw (v : Value) (h : v.oneCell' = true) : DC Z w (.raw v) v
  | nil (wd : Nat) (ao : Option Addr) (cap : Nat) (h : cap ≤ maxLen) : DC Z w (.sl wd []) (.slice ao 0 cap)
  | sl (wd : Nat) (rows : List (List CV)) (b off n cap : Nat) (us : List Value) (hn : rows.length = n) (hw : ∀ r ∈ rows, r.length = wd) (hz : Z b)
      (hc : n ≤ cap) (hm : cap ≤ maxLen) (hl : us.length = rows.flatten.length)
      (hcell : ∀ k u, us[k]? = some u → w.cell? ⟨b, off + k, none⟩ = some u)
      (hd : ∀ (k : Nat) (h : k < rows.flatten.length) (h' : k < us.length), DC Z w (rows.flatten[k]) (us[k])) :
      DC Z w (.sl wd rows) (.slice (some ⟨b, off, none⟩) n cap)
  | blkn (e : TypeId) (wd : Nat) : DC Z w (.blk e wd none []) (.slice none 0 0)
  | blk (e : TypeId) (wd : Nat) (rows : List (List CV)) (g off n cap : Nat) (cur : Array Value) (us : List Value) (hn : rows.length = n) (hw : ∀ r ∈ rows, r.length = wd) (hz : Z g)
      (hh : w.heap[g]? = some (.cells cur e (0, 0))) (hc : n ≤ cap) (hm : cap ≤ maxLen) (hr : off + cap * wd ≤ cur.size) (hl : us.length = rows.flatten.length)
      (hcell : ∀ k u, us[k]? = some u → cur[off + k]? = some u)
      (hd : ∀ (k : Nat) (h : k < rows.flatten.length) (h' : k < us.length), DC Z w (rows.flatten[k]) (us[k])) :
      DC Z w (.blk e wd (some g) rows) (.slice (some ⟨g, off, none⟩) n cap)

/-- The same, a list of cells. -/
def DL (Z : Nat → Prop) (w : World) : List CV → List Value → Prop
  | [], [] => True
  | x :: xs, u :: us => DC Z w x u ∧ DL Z w xs us
  | _, _ => False

theorem DL.len {Z : Nat → Prop} {w : World} : ∀ {xs : List CV} {us : List Value}, DL Z w xs us → us.length = xs.length
  | [], [], _ => rfl
  | _ :: _, _ :: _, h => by simp [DL.len h.2]
  | [], _ :: _, h => h.elim
  | _ :: _, [], h => h.elim

theorem DL.at {Z : Nat → Prop} {w : World} : ∀ {xs : List CV} {us : List Value}, DL Z w xs us → ∀ (k : Nat) (h : k < xs.length) (h' : k < us.length), DC Z w (xs[k]) (us[k])
  | x :: xs, u :: us, h, 0, _, _ => h.1
  | x :: xs, u :: us, h, k + 1, h1, h2 => DL.at h.2 k (by simpa using h1) (by simpa using h2)

theorem DL.mk {Z : Nat → Prop} {w : World} : ∀ {xs : List CV} {us : List Value}, us.length = xs.length → (∀ (k : Nat) (h : k < xs.length) (h' : k < us.length), DC Z w (xs[k]) (us[k])) → DL Z w xs us
  | [], [], _, _ => trivial
  | x :: xs, u :: us, hl, h => ⟨h 0 (by simp) (by simp), DL.mk (by simpa using hl) (fun k h1 h2 => h (k + 1) (by simpa using h1) (by simpa using h2))⟩
  | [], _ :: _, hl, _ => by simp at hl
  | _ :: _, [], hl, _ => by simp at hl

theorem DL.append {Z : Nat → Prop} {w : World} : ∀ {xs : List CV} {us : List Value} {ys : List CV} {vs : List Value}, DL Z w xs us → DL Z w ys vs → DL Z w (xs ++ ys) (us ++ vs)
  | [], [], _, _, _, h => h
  | _ :: _, _ :: _, _, _, h, h2 => ⟨h.1, DL.append h.2 h2⟩
  | [], _ :: _, _, _, h, _ => h.elim
  | _ :: _, [], _, _, h, _ => h.elim

theorem DL.take {Z : Nat → Prop} {w : World} (n : Nat) {xs : List CV} {us : List Value} (h : DL Z w xs us) : DL Z w (xs.take n) (us.take n) :=
  DL.mk (by simp [h.len]) fun k h1 h2 => by
    rw [List.getElem_take, List.getElem_take]
    exact h.at k _ _

theorem DL.drop {Z : Nat → Prop} {w : World} (n : Nat) {xs : List CV} {us : List Value} (h : DL Z w xs us) : DL Z w (xs.drop n) (us.drop n) :=
  DL.mk (by simp [h.len]) fun k h1 h2 => by
    rw [List.getElem_drop, List.getElem_drop]
    exact h.at _ _ _

theorem DC.one {Z : Nat → Prop} {w : World} {x : CV} {v : Value} (h : DC Z w x v) : v.oneCell' = true := by
  cases h <;> first | assumption | rfl

theorem DL.one {Z : Nat → Prop} {w : World} {xs : List CV} {us : List Value} (h : DL Z w xs us) : ∀ u ∈ us, u.oneCell' = true := by
  intro u hu
  obtain ⟨k, hk, rfl⟩ := List.getElem_of_mem hu
  exact (h.at k (by rw [← h.len]; exact hk) hk).one

/-- The blocks of the zone hold in w' what they held in w. -/
def Same (Z : Nat → Prop) (w w' : World) : Prop := ∀ g, Z g → w'.heap[g]? = w.heap[g]?

theorem Same.refl (Z : Nat → Prop) (w : World) : Same Z w w := fun _ _ => rfl
theorem Same.cell {Z : Nat → Prop} {w w' : World} (h : Same Z w w') {b o : Nat} (hz : Z b) : w'.cell? ⟨b, o, none⟩ = w.cell? ⟨b, o, none⟩ :=
  World.cell?_of_block (h b hz)

theorem DC.mono {Z Z' : Nat → Prop} {w w' : World} (hZ : ∀ g, Z g → Z' g) (hs : Same Z w w') {x : CV} {v : Value} (h : DC Z w x v) : DC Z' w' x v := by
  induction h with
  | raw v h => exact .raw v h
  | nil wd ao cap h => exact .nil wd ao cap h
  | sl wd rows b off n cap us hn hw hz hc hm hl hcell hd ih =>
    exact .sl wd rows b off n cap us hn hw (hZ b hz) hc hm hl (fun k u hu => (hs.cell hz).trans (hcell k u hu)) ih
  | blkn e wd => exact .blkn e wd
  | blk e wd rows g off n cap cur us hn hw hz hh hc hm hr hl hcell hd ih =>
    exact .blk e wd rows g off n cap cur us hn hw (hZ g hz) ((hs g hz).trans hh) hc hm hr hl hcell ih

theorem DL.mono {Z Z' : Nat → Prop} {w w' : World} (hZ : ∀ g, Z g → Z' g) (hs : Same Z w w') {xs : List CV} {us : List Value} (h : DL Z w xs us) : DL Z' w' xs us :=
  DL.mk h.len fun k h1 h2 => (h.at k h1 h2).mono hZ hs

/-- The listed variables' cells lie in the zone and hold what is known of them. -/
def Gl (Z : Nat → Prop) (w : World) : Prop := ∀ q ∈ globs, Z q.b ∧ ∃ o, w.heap[q.b]? = some o ∧ q.ok o
theorem Gl.mono {Z Z' : Nat → Prop} {w w' : World} (hZ : ∀ g, Z g → Z' g) (hs : Same Z w w') (h : Gl Z w) : Gl Z' w' := fun q hq => by
  obtain ⟨h1, v, h2, h3⟩ := h q hq
  exact ⟨hZ _ h1, v, (hs _ h1).trans h2, h3⟩


/-- What a field or a simple slot holds. 'own t': the slice (or the map ..) of object t. 'ref t o': the address of cell o of object t. 'el t wd i k': of cell k of its element i. 'imm xs': an address in the zone, whose cells from there on read as xs. -/
inductive A1 where
  | c (x : CV)
  | own (t : Nat)
  | ref (t off : Nat)
  | el (t wd i k : Nat)
  | imm (xs : List CV)
  | fn (f : FuncId) (recv : Option (Nat × Nat)) (caps : List (List CV))
  | pr (p : Value → Prop)

inductive AR where
  | one (x : A1)
  | agg (xs : List A1)

inductive AV where
  | r (x : AR)
  | tup (xs : List AR)
  | dead

abbrev AV.raw (v : Value) : AV := .r (.one (.c (.raw v)))
abbrev AV.i (n : Int) : AV := .raw (.int .i64 n)
abbrev AV.b (b : Bool) : AV := .raw (.bool b)
abbrev AV.str (s : List UInt8) : AV := .raw (.string ⟨s.toArray⟩)
abbrev AV.c (x : CV) : AV := .r (.one (.c x))
abbrev AV.sl (wd : Nat) (rows : List (List CV)) : AV := .c (.sl wd rows)
abbrev AV.own (t : Nat) : AV := .r (.one (.own t))
abbrev AV.ref (t off : Nat) : AV := .r (.one (.ref t off))
abbrev AV.el (t wd i k : Nat) : AV := .r (.one (.el t wd i k))
abbrev AV.imm (xs : List CV) : AV := .r (.one (.imm xs))
abbrev AV.agg (xs : List A1) : AV := .r (.agg xs)

/-- An object of the call's own (or one that it may write): by a tag. -/
inductive OB where
  | gone
  | row (wd : Nat) (e : TypeId) (rows : List (List CV))
  | froz (wd : Nat) (rows : List (List CV))
  | box (e : TypeId) (cells : List A1)
  | raw (o : Obj)
  | gen (ok : Value → Obj → List Value → Prop) (cells : List A1)

def OB.live : OB → Bool
  | .row .. | .box .. | .raw _ | .gen .. => true
  | _ => false

/-- The place that a slice or a pointer leads to. -/
def Value.place : Value → Option Addr
  | .slice (some a) _ _ => some a
  | .pointer (some a) => some a
  | .map (some r) => some ⟨r, 0, none⟩
  | _ => none

def blk (v : Value) : Option Nat := (Value.place v).map (·.block)

/-- A captured variable: an address in the zone. -/
def DI (Z : Nat → Prop) (w : World) (xs : List CV) (v : Value) : Prop := ∃ b off us, v = .pointer (some ⟨b, off, none⟩) ∧ Z b ∧ DL Z w xs us ∧ ∀ k u, us[k]? = some u → w.cell? ⟨b, off + k, none⟩ = some u
def DIL (Z : Nat → Prop) (w : World) : List (List CV) → List Value → Prop
  | [], [] => True
  | x :: xs, u :: us => DI Z w x u ∧ DIL Z w xs us
  | _, _ => False
theorem DI.mono {Z Z' : Nat → Prop} {w w' : World} (hZ : ∀ g, Z g → Z' g) (hs : Same Z w w') {xs : List CV} {v : Value} (h : DI Z w xs v) : DI Z' w' xs v := by
  obtain ⟨b, off, us, h1, h2, h3, h4⟩ := h
  exact ⟨b, off, us, h1, hZ b h2, h3.mono hZ hs, fun k u hu => (hs.cell h2).trans (h4 k u hu)⟩
theorem DIL.mono {Z Z' : Nat → Prop} {w w' : World} (hZ : ∀ g, Z g → Z' g) (hs : Same Z w w') : ∀ {xs : List (List CV)} {us : List Value}, DIL Z w xs us → DIL Z' w' xs us
  | [], [], _ => trivial
  | _ :: _, _ :: _, h => ⟨h.1.mono hZ hs, DIL.mono hZ hs h.2⟩
  | [], _ :: _, h => h.elim
  | _ :: _, [], h => h.elim
/-- What stands ahead of a function value's arguments: nothing, or the address of cell 'off' of object t. -/
def DF (ρ : Nat → Value) : Option (Nat × Nat) → List Value → Prop
  | none, fs => fs = []
  | some (t, off), fs => ∃ g o, Value.place (ρ t) = some ⟨g, o, none⟩ ∧ fs = [.pointer (some ⟨g, o + off, none⟩)]

def D1 (ρ : Nat → Value) (Z : Nat → Prop) (w : World) : A1 → Value → Prop
  | .fn f r caps, v => ∃ fs cs, v = .func (.func f) fs.toArray cs.toArray ∧ DF ρ r fs ∧ DIL Z w caps cs
  | .pr p, v => p v ∧ v.oneCell' = true
  | .c x, v => DC Z w x v
  | .own t, v => v = ρ t ∧ v.oneCell' = true
  | .ref t off, v => ∃ g o, Value.place (ρ t) = some ⟨g, o, none⟩ ∧ v = .pointer (some ⟨g, o + off, none⟩)
  | .el t wd i k, v => ∃ g o, Value.place (ρ t) = some ⟨g, o, none⟩ ∧ v = .pointer (some ⟨g, o + (i * wd + k), none⟩)
  | .imm xs, v => ∃ b off us, v = .pointer (some ⟨b, off, none⟩) ∧ Z b ∧ DL Z w xs us ∧ ∀ k u, us[k]? = some u → w.cell? ⟨b, off + k, none⟩ = some u

def D1L (ρ : Nat → Value) (Z : Nat → Prop) (w : World) : List A1 → List Value → Prop
  | [], [] => True
  | x :: xs, u :: us => D1 ρ Z w x u ∧ D1L ρ Z w xs us
  | _, _ => False

def DR (ρ : Nat → Value) (Z : Nat → Prop) (w : World) : AR → Value → Prop
  | .one x, v => D1 ρ Z w x v
  | .agg xs, v => ∃ us : List Value, v = .agg us.toArray ∧ D1L ρ Z w xs us

def DRL (ρ : Nat → Value) (Z : Nat → Prop) (w : World) : List AR → List Value → Prop
  | [], [] => True
  | x :: xs, u :: us => DR ρ Z w x u ∧ DRL ρ Z w xs us
  | _, _ => False

def DA (ρ : Nat → Value) (Z : Nat → Prop) (w : World) : AV → Value → Prop
  | .r x, v => DR ρ Z w x v
  | .tup xs, v => ∃ us : List Value, v = .tuple us.toArray ∧ DRL ρ Z w xs us
  | .dead, _ => True

/-- A map's value. -/
def mapV (o : Obj) (v : Value) (g : Nat) : Prop :=
  match o with
  | .map _ _ => v = .map (some g)
  | _ => True

def DO (ρ : Nat → Value) (Z : Nat → Prop) (w : World) (t : Nat) : OB → Prop
  | .gone => True
  | .row wd e rows => (∀ r ∈ rows, r.length = wd) ∧ ((ρ t = .slice none 0 0 ∧ rows = []) ∨
      ∃ g off cap cur us, ρ t = .slice (some ⟨g, off, none⟩) rows.length cap ∧ w.heap[g]? = some (.cells cur e (0, 0)) ∧ rows.length ≤ cap ∧ cap ≤ maxLen ∧
        off + cap * wd ≤ cur.size ∧ DL Z w rows.flatten us ∧ ∀ k u, us[k]? = some u → cur[off + k]? = some u)
  | .froz wd rows => DC Z w (.sl wd rows) (ρ t)
  | .box e cells => ∃ g us, ρ t = .pointer (some ⟨g, 0, none⟩) ∧ w.heap[g]? = some (.cells us.toArray e (0, 0)) ∧ D1L ρ Z w cells us
  | .raw o => ∃ g, blk (ρ t) = some g ∧ w.heap[g]? = some o ∧ mapV o (ρ t) g
  | .gen ok cells => ∃ g o us, blk (ρ t) = some g ∧ w.heap[g]? = some o ∧ ok (ρ t) o us ∧ D1L ρ Z w cells us

section
variable {ρ ρ' : Nat → Value} {Z Z' : Nat → Prop} {w w' : World}

theorem D1.one {x : A1} {v : Value} (h : D1 ρ Z w x v) : v.oneCell' = true := by
  cases x with
  | c x => exact DC.one h
  | own t => exact h.2
  | ref t off => obtain ⟨g, o, _, rfl⟩ := h; rfl
  | el t wd i k => obtain ⟨g, o, _, rfl⟩ := h; rfl
  | imm xs => obtain ⟨b, off, us, rfl, _⟩ := h; rfl
  | fn f r caps => obtain ⟨fs, cs, rfl, _⟩ := h; rfl
  | pr p => exact h.2

theorem D1L.one : ∀ {xs : List A1} {us : List Value}, D1L ρ Z w xs us → ∀ u ∈ us, u.oneCell' = true
  | [], [], _, _, hu => by cases hu
  | x :: xs, u :: us, h, v, hv => by
    cases hv with
    | head => exact D1.one h.1
    | tail _ hv => exact D1L.one h.2 v hv
  | [], _ :: _, h, _, _ => h.elim
  | _ :: _, [], h, _, _ => h.elim

theorem D1L.len : ∀ {xs : List A1} {us : List Value}, D1L ρ Z w xs us → us.length = xs.length
  | [], [], _ => rfl
  | _ :: _, _ :: _, h => by simp [D1L.len h.2]
  | [], _ :: _, h => h.elim
  | _ :: _, [], h => h.elim

/-- Which tags a value names. -/
def A1.tag : A1 → Option Nat
  | .own t | .ref t _ | .el t _ _ _ => some t
  | .fn _ r _ => r.map (·.1)
  | _ => none
def AR.tags : AR → List Nat
  | .one x => x.tag.toList
  | .agg xs => xs.flatMap (·.tag.toList)

theorem D1.mono (hZ : ∀ g, Z g → Z' g) (hs : Same Z w w') {x : A1} (hr : ∀ t, x.tag = some t → ρ' t = ρ t) {v : Value} (h : D1 ρ Z w x v) : D1 ρ' Z' w' x v := by
  cases x with
  | c x => exact DC.mono hZ hs h
  | own t => exact ⟨by rw [hr t rfl]; exact h.1, h.2⟩
  | ref t off => obtain ⟨g, o, h1, h2⟩ := h; exact ⟨g, o, by rw [hr t rfl]; exact h1, h2⟩
  | el t wd i k => obtain ⟨g, o, h1, h2⟩ := h; exact ⟨g, o, by rw [hr t rfl]; exact h1, h2⟩
  | imm xs =>
    obtain ⟨b, off, us, h1, h2, h3, h4⟩ := h
    exact ⟨b, off, us, h1, hZ b h2, h3.mono hZ hs, fun k u hu => (hs.cell h2).trans (h4 k u hu)⟩
  | fn f r caps =>
    obtain ⟨fs, cs, h1, h2, h3⟩ := h
    refine ⟨fs, cs, h1, ?_, h3.mono hZ hs⟩
    cases r with
    | none => exact h2
    | some p => obtain ⟨g, o, h4, h5⟩ := h2; exact ⟨g, o, by rw [hr p.1 rfl]; exact h4, h5⟩
  | pr p => exact h

theorem D1L.mono (hZ : ∀ g, Z g → Z' g) (hs : Same Z w w') : ∀ {xs : List A1} {us : List Value}, (∀ x ∈ xs, ∀ t, x.tag = some t → ρ' t = ρ t) → D1L ρ Z w xs us → D1L ρ' Z' w' xs us
  | [], [], _, _ => trivial
  | x :: xs, u :: us, hr, h => ⟨D1.mono hZ hs (hr x (.head _)) h.1, D1L.mono hZ hs (fun y hy => hr y (.tail _ hy)) h.2⟩
  | [], _ :: _, _, h => h.elim
  | _ :: _, [], _, h => h.elim

theorem DR.mono (hZ : ∀ g, Z g → Z' g) (hs : Same Z w w') {x : AR} (hr : ∀ t ∈ x.tags, ρ' t = ρ t) {v : Value} (h : DR ρ Z w x v) : DR ρ' Z' w' x v := by
  cases x with
  | one x => exact D1.mono hZ hs (fun t ht => hr t (by simp [AR.tags, ht])) h
  | agg xs =>
    obtain ⟨us, h1, h2⟩ := h
    exact ⟨us, h1, D1L.mono hZ hs (fun x hx t ht => hr t (by simp only [AR.tags, List.mem_flatMap]; exact ⟨x, hx, by simp [ht]⟩)) h2⟩

theorem DRL.mono (hZ : ∀ g, Z g → Z' g) (hs : Same Z w w') : ∀ {xs : List AR} {us : List Value}, (∀ x ∈ xs, ∀ t ∈ x.tags, ρ' t = ρ t) → DRL ρ Z w xs us → DRL ρ' Z' w' xs us
  | [], [], _, _ => trivial
  | x :: xs, u :: us, hr, h => ⟨DR.mono hZ hs (hr x (.head _)) h.1, DRL.mono hZ hs (fun y hy => hr y (.tail _ hy)) h.2⟩
  | [], _ :: _, _, h => h.elim
  | _ :: _, [], _, h => h.elim

def AV.tags : AV → List Nat
  | .r x => x.tags
  | .tup xs => xs.flatMap (·.tags)
  | .dead => []

theorem DA.mono (hZ : ∀ g, Z g → Z' g) (hs : Same Z w w') {x : AV} (hr : ∀ t ∈ x.tags, ρ' t = ρ t) {v : Value} (h : DA ρ Z w x v) : DA ρ' Z' w' x v := by
  cases x with
  | r x => exact DR.mono hZ hs hr h
  | tup xs =>
    obtain ⟨us, h1, h2⟩ := h
    exact ⟨us, h1, DRL.mono hZ hs (fun x hx t ht => hr t (by simp only [AV.tags, List.mem_flatMap]; exact ⟨x, hx, ht⟩)) h2⟩
  | dead => trivial

def OB.tags : OB → List Nat
  | .box _ cells => cells.flatMap (·.tag.toList)
  | .gen _ cells => cells.flatMap (·.tag.toList)
  | _ => []

/-- An object whose block (if it is live) holds what it held. -/
theorem DO.mono (hZ : ∀ g, Z g → Z' g) (hs : Same Z w w') {t : Nat} {ob : OB} (ht : ρ' t = ρ t) (hr : ∀ t ∈ ob.tags, ρ' t = ρ t)
    (hb : ob.live = true → ∀ g, blk (ρ t) = some g → w'.heap[g]? = w.heap[g]?) (h : DO ρ Z w t ob) : DO ρ' Z' w' t ob := by
  cases ob with
  | gone => trivial
  | row wd e rows =>
    refine ⟨h.1, ?_⟩
    rw [ht]
    rcases h.2 with h2 | ⟨g, off, cap, cur, us, h1, h2, h3, h4, h5, h6, h7⟩
    · exact .inl h2
    · exact .inr ⟨g, off, cap, cur, us, h1, by rw [hb rfl g (by rw [h1]; rfl)]; exact h2, h3, h4, h5, h6.mono hZ hs, h7⟩
  | froz wd rows => show DC Z' w' (.sl wd rows) (ρ' t); rw [ht]; exact DC.mono hZ hs h
  | box e cells =>
    obtain ⟨g, us, h1, h2, h3⟩ := h
    exact ⟨g, us, by rw [ht]; exact h1, by rw [hb rfl g (by rw [h1]; rfl)]; exact h2, D1L.mono hZ hs (fun x hx t' ht' => hr t' (by simp only [OB.tags, List.mem_flatMap]; exact ⟨x, hx, by simp [ht']⟩)) h3⟩
  | raw o =>
    obtain ⟨g, h1, h2, h3⟩ := h
    exact ⟨g, by rw [ht]; exact h1, by rw [hb rfl g h1]; exact h2, by rw [ht]; exact h3⟩
  | gen ok cells =>
    obtain ⟨g, o, us, h1, h2, h3, h4⟩ := h
    exact ⟨g, o, us, by rw [ht]; exact h1, by rw [hb rfl g h1]; exact h2, by rw [ht]; exact h3, D1L.mono hZ hs (fun x hx t' ht' => hr t' (by simp only [OB.tags, List.mem_flatMap]; exact ⟨x, hx, by simp [ht']⟩)) h4⟩
end

end Go.Proofs.Ytokhfcfnhgianaa
/-
  The invariant between an abstract state and the machine's state, and how it is kept.
-/
namespace Go.Proofs.Ytokhfcfnhgianaa
open Go.RowKit
set_option linter.unusedVariables false

/-- What stays the same in one call: the number of slots; the heap's size as it began; which old blocks it may write; the world as it began; the objects that it was handed (tags below m0), and where they lie. -/
structure Cx where
  N : Nat
  B : Nat
  M : Nat → Prop
  w0 : World
  m0 : Nat
  ρ0 : Nat → Value
  Z0 : Nat → Prop

def lk {α : Type} (d : α) : List (Nat × α) → Nat → α
  | [], _ => d
  | (k, x) :: l, t => cond (Nat.beq k t) x (lk d l t)

def lkf {α : Type} (f : Nat → α) : List (Nat × α) → Nat → α
  | [], t => f t
  | (k, x) :: l, t => cond (Nat.beq k t) x (lkf f l t)

theorem lkf_lk {α : Type} (d : α) (l : List (Nat × α)) : ∀ u : List (Nat × α), lkf (lk d l) u = lk d (u ++ l)
  | [] => rfl
  | (k, x) :: u => by
    funext t
    show cond _ _ (lkf (lk d l) u t) = cond _ _ (lk d (u ++ l) t)
    rw [lkf_lk d l u]

theorem beq_self (t : Nat) : Nat.beq t t = true := Nat.beq_refl t
theorem beq_ne {k t : Nat} (h : k ≠ t) : Nat.beq k t = false := by
  cases hb : Nat.beq k t with
  | false => rfl
  | true => exact absurd (Nat.eq_of_beq_eq_true hb) h

theorem lkf_one {α : Type} (f : Nat → α) (k : Nat) (x : α) (t : Nat) : lkf f [(k, x)] t = if t = k then x else f t := by
  show cond (Nat.beq k t) x (f t) = _
  by_cases h : t = k
  · subst h; rw [beq_self]; simp
  · rw [beq_ne (Ne.symm h), if_neg h]; rfl

theorem lkf_two {α : Type} (f : Nat → α) (k j : Nat) (x y : α) (t : Nat) : lkf f [(k, x), (j, y)] t = if t = k then x else if t = j then y else f t := by
  show cond (Nat.beq k t) x (cond (Nat.beq j t) y (f t)) = _
  by_cases h : t = k
  · subst h; rw [beq_self]; simp
  · rw [beq_ne (Ne.symm h), if_neg h]
    by_cases h2 : t = j
    · subst h2; rw [beq_self]; simp
    · rw [beq_ne (Ne.symm h2), if_neg h2]; rfl

def GlX (cx : Cx) : Prop := Gl cx.Z0 cx.w0 ∧ ∀ g, cx.Z0 g → g < cx.B ∧ ¬ cx.M g
def GZ (cx : Cx) (Z : Nat → Prop) : Prop := (∀ g, cx.Z0 g → Z g) ∧ GlX cx
structure Good (cx : Cx) (S : Nat → AV) (O : Nat → OB) (V : Nat → Prop) (a : Act) (w : World) (ρ : Nat → Value) (Z : Nat → Prop) : Prop where
  size : a.tmps.size = cx.N
  defers : a.defers = []
  slot : ∀ t, DA ρ Z w (S t) (a.tmps.getD t undef)
  obj : ∀ t, DO ρ Z w t (O t)
  sep : ∀ t t' g, (O t).live = true → (O t').live = true → blk (ρ t) = some g → blk (ρ t') = some g → t = t'
  out : ∀ t g, (O t).live = true → blk (ρ t) = some g → ¬ Z g ∧ (cx.B ≤ g ∨ cx.M g)
  zlt : ∀ g, Z g → g < w.heap.size
  virgin : ∀ t, V t → O t = .gone ∧ (∀ s, t ∉ (S s).tags) ∧ ∀ s, t ∉ (O s).tags
  os : w.os = cx.w0.os
  tape : w.tape = cx.w0.tape
  output : w.output = cx.w0.output
  big : cx.B ≤ w.heap.size
  old : ∀ g, g < cx.B → ¬ cx.M g → w.heap[g]? = cx.w0.heap[g]?
  pin : ∀ i, i < cx.m0 → ρ i = cx.ρ0 i
  vlo : ∀ t, V t → cx.m0 ≤ t
  zin : GZ cx Z
  zout : ∀ g, Z g → cx.Z0 g ∨ cx.B ≤ g ∨ cx.M g

theorem Good.gl {cx : Cx} {S : Nat → AV} {O : Nat → OB} {V : Nat → Prop} {a : Act} {w : World} {ρ : Nat → Value} {Z : Nat → Prop} (h : Good cx S O V a w ρ Z) : Gl Z w :=
  Gl.mono h.zin.1 (fun g hg => h.old g (h.zin.2.2 g hg).1 (h.zin.2.2 g hg).2) h.zin.2.1

def Inv (cx : Cx) (S : Nat → AV) (O : Nat → OB) (V : Nat → Prop) (a : Act) (w : World) : Prop := ∃ ρ Z, Good cx S O V a w ρ Z

/-- A constant, seen as data. -/
def cav : Value → AV
  | .agg cs => cond (cs.toList.all (·.oneCell')) (.agg (cs.toList.map fun v => .c (.raw v))) .dead
  | .tuple _ => .dead
  | v => .raw v

/-- The value of an operand, seen as data. -/
def vl (S : Nat → AV) : Operand → AV
  | .tmp t => S t
  | .const v => cav v
  | .func f => .raw (.func (.func f) #[] #[])
  | .global _ => .dead
def Ag (S : Nat → AV) (x : Operand) (av : AV) : Prop := vl S x = av

theorem d1l_raws {ρ : Nat → Value} {Z : Nat → Prop} {w : World} : ∀ {zs : List Value}, zs.all (·.oneCell') = true → D1L ρ Z w (zs.map fun v => .c (.raw v)) zs
  | [], _ => trivial
  | z :: zs, h => by
    simp only [List.all_cons, Bool.and_eq_true] at h
    exact ⟨DC.raw z h.1, d1l_raws h.2⟩

theorem cav_ok (v : Value) : (cav v).tags = [] ∧ ∀ ρ Z w, DA ρ Z w (cav v) v := by
  cases v with
  | agg cs =>
    simp only [cav]
    cases h : cs.toList.all (·.oneCell') with
    | false => exact ⟨rfl, fun _ _ _ => trivial⟩
    | true =>
      refine ⟨?_, fun _ _ _ => ⟨cs.toList, by simp, d1l_raws h⟩⟩
      simp only [cond_true, AV.tags, AR.tags]
      induction cs.toList with
      | nil => rfl
      | cons x xs ih => simp [A1.tag]
  | tuple vs => exact ⟨rfl, fun _ _ _ => trivial⟩
  | _ => exact ⟨rfl, fun _ _ _ => DC.raw _ rfl⟩

section
variable {cx : Cx} {S : Nat → AV} {O : Nat → OB} {V : Nat → Prop} {a : Act} {w w' : World} {ρ : Nat → Value} {Z : Nat → Prop}

theorem Good.ag (h : Good cx S O V a w ρ Z) {x : Operand} {av : AV} (hx : Ag S x av) : DA ρ Z w av (a.eval x) := by
  cases hx
  cases x with
  | tmp t => exact h.slot t
  | const v => exact (cav_ok v).2 ρ Z w
  | func f => exact DC.raw _ rfl
  | global g => trivial

theorem Good.agv (h : Good cx S O V a w ρ Z) {x : Operand} {av : AV} (hx : Ag S x av) : ∀ t ∈ av.tags, ¬ V t := by
  intro t ht hv
  cases hx
  cases x with
  | tmp s => exact (h.virgin t hv).2.1 s ht
  | const v => rw [vl, (cav_ok v).1] at ht; cases ht
  | func f => cases ht
  | global g => cases ht

theorem Good.put (h : Good cx S O V a w ρ Z) {d : Nat} (hd : d < cx.N) {x : AV} {v : Value} (hx : DA ρ Z w x v) (hv : ∀ t ∈ x.tags, ¬ V t) :
    Good cx (lkf S [(d, x)]) O V (a.put (some d) v) w ρ Z where
  size := by simpa [Act.put] using h.size
  defers := h.defers
  slot t := by
    rw [lkf_one]
    by_cases e : t = d
    · subst e
      rw [if_pos rfl]
      have : (a.put (some t) v).tmps.getD t undef = v := by
        have := h.size
        simp [Act.put, Array.getD, Array.size_setIfInBounds, this, hd]
      rw [this]; exact hx
    · rw [if_neg e]
      have : (a.put (some d) v).tmps.getD t undef = a.tmps.getD t undef := by
        simp [Act.put, Array.getD_eq_getD_getElem?, Ne.symm e]
      rw [this]; exact h.slot t
  obj := h.obj
  sep := h.sep
  out := h.out
  zlt := h.zlt
  virgin t ht := by
    obtain ⟨h1, h2, h3⟩ := h.virgin t ht
    refine ⟨h1, fun s => ?_, h3⟩
    rw [lkf_one]
    split
    · exact fun hm => hv t hm ht
    · exact h2 s
  os := h.os
  tape := h.tape
  output := h.output
  big := h.big
  old := h.old
  pin := h.pin
  vlo := h.vlo
  zin := h.zin
  zout := h.zout

/-- The world has grown, the objects' blocks and the zone are as they were. -/
theorem Good.grow (h : Good cx S O V a w ρ Z) (hg : w.grownBy w' none) : Good cx S O V a w' ρ Z where
  size := h.size
  defers := h.defers
  slot t := DA.mono (fun _ hz => hz) (fun g hz => hg.block g (h.zlt g hz) (by simp)) (fun _ _ => rfl) (h.slot t)
  obj t := by
    refine DO.mono (fun _ hz => hz) (fun g hz => hg.block g (h.zlt g hz) (by simp)) rfl (fun _ _ => rfl) (fun hl g hb => ?_) (h.obj t)
    by_cases hlt : g < w.heap.size
    · exact hg.block g hlt (by simp)
    · exfalso
      have ho := h.obj t
      cases hob : O t with
      | gone => rw [hob] at hl; cases hl
      | froz => rw [hob] at hl; cases hl
      | row wd e rows =>
        rw [hob] at ho
        rcases ho.2 with ⟨h1, _⟩ | ⟨g', off, cap, cur, us, h1, h2, _⟩
        · rw [h1] at hb; cases hb
        · rw [h1] at hb; cases hb; exact hlt (Array.getElem?_eq_some_iff.1 h2).1
      | box e cells =>
        rw [hob] at ho
        obtain ⟨g', us, h1, h2, _⟩ := ho
        rw [h1] at hb; cases hb; exact hlt (Array.getElem?_eq_some_iff.1 h2).1
      | raw o =>
        rw [hob] at ho
        obtain ⟨g', h1, h2, _⟩ := ho
        rw [h1] at hb; cases hb; exact hlt (Array.getElem?_eq_some_iff.1 h2).1
      | gen ok cells =>
        rw [hob] at ho
        obtain ⟨g', o', us, h1, h2, _⟩ := ho
        rw [h1] at hb; cases hb; exact hlt (Array.getElem?_eq_some_iff.1 h2).1
  sep := h.sep
  out := h.out
  zlt g hz := Nat.lt_of_lt_of_le (h.zlt g hz) hg.size
  virgin := h.virgin
  os := hg.os.trans h.os
  tape := hg.tape.trans h.tape
  output := hg.output.trans h.output
  big := Nat.le_trans h.big hg.size
  old g hb hm := (hg.block g (Nat.lt_of_lt_of_le hb h.big) (by simp)).trans (h.old g hb hm)
  pin := h.pin
  vlo := h.vlo
  zin := h.zin
  zout := h.zout

/-- A live object's block is there. -/
theorem Good.lt (h : Good cx S O V a w ρ Z) {t g : Nat} (hl : (O t).live = true) (hb : blk (ρ t) = some g) : g < w.heap.size := by
  have ho := h.obj t
  cases hob : O t with
  | gone => rw [hob] at hl; cases hl
  | froz => rw [hob] at hl; cases hl
  | row wd e rows =>
    rw [hob] at ho
    rcases ho.2 with ⟨h1, _⟩ | ⟨g', off, cap, cur, us, h1, h2, _⟩
    · rw [h1] at hb; cases hb
    · rw [h1] at hb; cases hb; exact (Array.getElem?_eq_some_iff.1 h2).1
  | box e cells =>
    rw [hob] at ho
    obtain ⟨g', us, h1, h2, _⟩ := ho
    rw [h1] at hb; cases hb; exact (Array.getElem?_eq_some_iff.1 h2).1
  | raw o =>
    rw [hob] at ho
    obtain ⟨g', h1, h2, _⟩ := ho
    rw [h1] at hb; cases hb; exact (Array.getElem?_eq_some_iff.1 h2).1
  | gen ok cells =>
    rw [hob] at ho
    obtain ⟨g', o', us, h1, h2, _⟩ := ho
    rw [h1] at hb; cases hb; exact (Array.getElem?_eq_some_iff.1 h2).1

/-- Object t's block is written (or new blocks come); its data turns to 'ob'. -/
theorem Good.set (h : Good cx S O V a w ρ Z) {t : Nat} (hl : (O t).live = true) (hg : w.grownBy w' (blk (ρ t))) {ob : OB}
    (hob : DO ρ Z w' t ob) (htags : ∀ s ∈ ob.tags, ¬ V s) : Good cx S (lkf O [(t, ob)]) V a w' ρ Z := by
  have hsame : Same Z w w' := fun g hz => hg.block g (h.zlt g hz) (fun e => (h.out t g hl e.symm).1 hz)
  refine ⟨h.size, h.defers, fun s => DA.mono (fun _ hz => hz) hsame (fun _ _ => rfl) (h.slot s), fun s => ?_, fun s s' g h1 h2 h3 h4 => ?_, fun s g h1 h2 => ?_, fun g hz => Nat.lt_of_lt_of_le (h.zlt g hz) hg.size, fun s hs => ?_, hg.os.trans h.os, hg.tape.trans h.tape, hg.output.trans h.output, Nat.le_trans h.big hg.size, fun g hb hm => ?_, h.pin, h.vlo, h.zin, h.zout⟩
  · rw [lkf_one]
    split
    · rename_i e; subst e; exact hob
    · rename_i e
      refine DO.mono (fun _ hz => hz) hsame rfl (fun _ _ => rfl) (fun hls g hb => hg.block g (h.lt hls hb) (fun e2 => e (h.sep s t g hls hl hb e2.symm))) (h.obj s)
  · have live_of : ∀ s, (lkf O [(t, ob)] s).live = true → (O s).live = true := fun s hs => by
      rw [lkf_one] at hs
      split at hs
      · rename_i e; subst e; exact hl
      · exact hs
    exact h.sep s s' g (live_of s h1) (live_of s' h2) h3 h4
  · rw [lkf_one] at h1
    split at h1
    · rename_i e; subst e; exact h.out s g hl h2
    · exact h.out s g h1 h2
  · obtain ⟨h1, h2, h3⟩ := h.virgin s hs
    have hne : s ≠ t := fun e => by subst e; rw [h1] at hl; cases hl
    refine ⟨by rw [lkf_one, if_neg hne]; exact h1, h2, fun s' => ?_⟩
    rw [lkf_one]
    split
    · exact fun hm => htags s hm hs
    · exact h3 s'
  · exact (hg.block g (Nat.lt_of_lt_of_le hb h.big) (fun e => (h.out t g hl e.symm).2.elim (fun h1 => absurd hb (by omega)) hm)).trans (h.old g hb hm)

/-- A new object under a tag that was not in use. -/
theorem Good.new (h : Good cx S O V a w ρ Z) {t : Nat} (hV : V t) (hg : w.grownBy w' none) {v : Value} {ob : OB}
    (hob : DO (fun s => if s = t then v else ρ s) Z w' t ob) (hblk : ∀ g, blk v = some g → w.heap.size ≤ g) (htags : ∀ s ∈ ob.tags, ¬ V s) :
    Good cx S (lkf O [(t, ob)]) (fun s => V s ∧ s ≠ t) a w' (fun s => if s = t then v else ρ s) Z := by
  have h' := h.grow hg
  obtain ⟨ht1, ht2, ht3⟩ := h.virgin t hV
  have hρ : ∀ s, s ≠ t → (fun s => if s = t then v else ρ s) s = ρ s := fun s e => if_neg e
  have hZt : ∀ g, blk v = some g → ¬ Z g := fun g hb hz => absurd (h.zlt g hz) (by have := hblk g hb; omega)
  refine ⟨h.size, h.defers, fun s => DA.mono (fun _ hz => hz) (Same.refl _ _) (fun t' ht' => hρ t' (fun e => ht2 s (e ▸ ht'))) (h'.slot s), fun s => ?_, fun s s' g h1 h2 h3 h4 => ?_, fun s g h1 h2 => ?_, h'.zlt, fun s hs => ?_, h'.os, h'.tape, h'.output, h'.big, h'.old, fun i hi => (if_neg (fun e => by have := h.vlo t hV; omega)).trans (h.pin i hi), fun s hs => h.vlo s hs.1, h.zin, h.zout⟩
  · rw [lkf_one]
    split
    · rename_i e; subst e; exact hob
    · rename_i e
      exact DO.mono (fun _ hz => hz) (Same.refl _ _) (hρ s e) (fun t' ht' => hρ t' (fun e2 => ht3 s (e2 ▸ ht'))) (fun _ _ _ => rfl) (h'.obj s)
  · rw [lkf_one] at h1 h2
    by_cases e1 : s = t <;> by_cases e2 : s' = t
    · rw [e1, e2]
    · rw [if_neg e2] at h2
      rw [if_pos e1] at h3; rw [if_neg e2] at h4
      have := h.lt h2 h4
      have := hblk g h3
      omega
    · rw [if_neg e1] at h1
      rw [if_neg e1] at h3; rw [if_pos e2] at h4
      have := h.lt h1 h3
      have := hblk g h4
      omega
    · rw [if_neg e1] at h1; rw [if_neg e2] at h2
      rw [if_neg e1] at h3; rw [if_neg e2] at h4
      exact h.sep s s' g h1 h2 h3 h4
  · rw [lkf_one] at h1
    by_cases e : s = t
    · rw [if_pos e] at h2
      exact ⟨hZt g h2, .inl (Nat.le_trans h.big (hblk g h2))⟩
    · rw [if_neg e] at h1 h2
      exact h.out s g h1 h2
  · obtain ⟨hs1, hs2⟩ := hs
    obtain ⟨h1, h2, h3⟩ := h.virgin s hs1
    refine ⟨by rw [lkf_one, if_neg hs2]; exact h1, h2, fun s' => ?_⟩
    rw [lkf_one]
    split
    · exact fun hm => htags s hm hs1
    · exact h3 s'

/-- Object t goes; a new object under a tag not in use takes its block, or a new one. -/
theorem Good.subst (h : Good cx S O V a w ρ Z) {t u : Nat} (hl : (O t).live = true) (hV : V u) (hg : w.grownBy w' (blk (ρ t))) {v : Value} {ob : OB}
    (hob : DO (fun s => if s = u then v else ρ s) Z w' u ob) (hblk : ∀ g, blk v = some g → w.heap.size ≤ g ∨ blk (ρ t) = some g) (htags : ∀ s ∈ ob.tags, ¬ V s) :
    Good cx S (lkf O [(u, ob), (t, .gone)]) (fun s => V s ∧ s ≠ u) a w' (fun s => if s = u then v else ρ s) Z := by
  have hsame : Same Z w w' := fun g hz => hg.block g (h.zlt g hz) (fun e => (h.out t g hl e.symm).1 hz)
  obtain ⟨ht1, ht2, ht3⟩ := h.virgin u hV
  have hut : t ≠ u := fun e => by subst e; rw [ht1] at hl; cases hl
  have hρ : ∀ s, s ≠ u → (fun s => if s = u then v else ρ s) s = ρ s := fun s e => if_neg e
  refine ⟨h.size, h.defers, fun s => DA.mono (fun _ hz => hz) hsame (fun t' ht' => hρ t' (fun e => ht2 s (e ▸ ht'))) (h.slot s), fun s => ?_, fun s s' g h1 h2 h3 h4 => ?_, fun s g h1 h2 => ?_, fun g hz => Nat.lt_of_lt_of_le (h.zlt g hz) hg.size, fun s hs => ?_, hg.os.trans h.os, hg.tape.trans h.tape, hg.output.trans h.output, Nat.le_trans h.big hg.size, fun g hb hm => ?_, fun i hi => (if_neg (fun e => by have := h.vlo u hV; omega)).trans (h.pin i hi), fun s hs => h.vlo s hs.1, h.zin, h.zout⟩
  · rw [lkf_two]
    split
    · rename_i e; subst e; exact hob
    · rename_i e
      split
      · trivial
      · rename_i e2
        exact DO.mono (fun _ hz => hz) hsame (hρ s e) (fun t' ht' => hρ t' (fun e3 => ht3 s (e3 ▸ ht'))) (fun hls g hb => hg.block g (h.lt hls hb) (fun e3 => e2 (h.sep s t g hls hl hb e3.symm))) (h.obj s)
  · rw [lkf_two] at h1 h2
    by_cases e1 : s = u <;> by_cases e2 : s' = u
    · rw [e1, e2]
    · rw [if_neg e2] at h2 h4
      rw [if_pos e1] at h3
      by_cases e3 : s' = t
      · rw [if_pos e3] at h2; cases h2
      · rw [if_neg e3] at h2
        rcases hblk g h3 with hc | hc
        · have := h.lt h2 h4; omega
        · exact absurd (h.sep s' t g h2 hl h4 hc) e3
    · rw [if_neg e1] at h1 h3
      rw [if_pos e2] at h4
      by_cases e3 : s = t
      · rw [if_pos e3] at h1; cases h1
      · rw [if_neg e3] at h1
        rcases hblk g h4 with hc | hc
        · have := h.lt h1 h3; omega
        · exact absurd (h.sep s t g h1 hl h3 hc) e3
    · rw [if_neg e1] at h1 h3
      rw [if_neg e2] at h2 h4
      by_cases e3 : s = t
      · rw [if_pos e3] at h1; cases h1
      · rw [if_neg e3] at h1
        by_cases e4 : s' = t
        · rw [if_pos e4] at h2; cases h2
        · rw [if_neg e4] at h2
          exact h.sep s s' g h1 h2 h3 h4
  · rw [lkf_two] at h1
    by_cases e : s = u
    · rw [if_pos e] at h2
      rcases hblk g h2 with hc | hc
      · exact ⟨fun hz => absurd (h.zlt g hz) (by omega), .inl (Nat.le_trans h.big hc)⟩
      · exact h.out t g hl hc
    · rw [if_neg e] at h1 h2
      by_cases e3 : s = t
      · rw [if_pos e3] at h1; cases h1
      · rw [if_neg e3] at h1
        exact h.out s g h1 h2
  · obtain ⟨hs1, hs2⟩ := hs
    obtain ⟨h1, h2, h3⟩ := h.virgin s hs1
    refine ⟨?_, h2, fun s' => ?_⟩
    · rw [lkf_two, if_neg hs2]
      split
      · rfl
      · exact h1
    · rw [lkf_two]
      split
      · exact fun hm => htags s hm hs1
      · split
        · exact fun hm => by cases hm
        · exact h3 s'
  · exact (hg.block g (Nat.lt_of_lt_of_le hb h.big) (fun e => (h.out t g hl e.symm).2.elim (fun h1 => absurd hb (by omega)) hm)).trans (h.old g hb hm)

/-- An object of the call's own is written no more: its block joins the zone. -/
theorem Good.freeze (h : Good cx S O V a w ρ Z) {t wd : Nat} {e : TypeId} {rows : List (List CV)} (ho : O t = .row wd e rows) :
    Good cx S (lkf O [(t, .froz wd rows)]) V a w ρ (fun g => Z g ∨ blk (ρ t) = some g) := by
  have hl : (O t).live = true := by rw [ho]; rfl
  have hob := h.obj t
  rw [ho] at hob
  refine ⟨h.size, h.defers, fun s => DA.mono (fun _ hz => .inl hz) (Same.refl _ _) (fun _ _ => rfl) (h.slot s), fun s => ?_, fun s s' g h1 h2 h3 h4 => ?_, fun s g h1 h2 => ?_, fun g hz => hz.elim (h.zlt g) (h.lt hl), fun s hs => ?_, h.os, h.tape, h.output, h.big, h.old, h.pin, h.vlo, ⟨fun g hz => .inl (h.zin.1 g hz), h.zin.2⟩, fun g hz => hz.elim (h.zout g) (fun hb => .inr (h.out t g hl hb).2)⟩
  · rw [lkf_one]
    split
    · rename_i e; subst e
      obtain ⟨Z', hZ'⟩ : ∃ Z', Z' = fun g => Z g ∨ blk (ρ s) = some g := ⟨_, rfl⟩
      show DC (fun g => Z g ∨ blk (ρ s) = some g) w (.sl wd rows) (ρ s)
      rw [← hZ']
      rcases hob.2 with ⟨h1, rfl⟩ | ⟨g, off, cap, cur, us, h1, h2, h3, h4, h5, h6, h7⟩
      · rw [h1]; exact .nil wd none 0 (Nat.zero_le _)
      · have h6' : DL Z' w rows.flatten us := h6.mono (fun _ hz => by rw [hZ']; exact .inl hz) (Same.refl _ _)
        have hzg : Z' g := by rw [hZ']; exact .inr (by rw [h1]; rfl)
        rw [h1]
        refine .sl wd rows g off _ cap us rfl hob.1 hzg h3 h4 h6.len (fun k u hu => ?_) (fun k hk hk' => h6'.at k hk hk')
        rw [World.cell?, h2]
        simpa using h7 k u hu
    · rename_i e
      exact DO.mono (fun _ hz => .inl hz) (Same.refl _ _) rfl (fun _ _ => rfl) (fun _ _ _ => rfl) (h.obj s)
  · have live_of : ∀ s, (lkf O [(t, .froz wd rows)] s).live = true → (O s).live = true := fun s hs => by
      rw [lkf_one] at hs
      split at hs
      · cases hs
      · exact hs
    exact h.sep s s' g (live_of s h1) (live_of s' h2) h3 h4
  · rw [lkf_one] at h1
    split at h1
    · cases h1
    · rename_i e
      refine ⟨fun hz => ?_, (h.out s g h1 h2).2⟩
      rcases hz with hz | hz
      · exact (h.out s g h1 h2).1 hz
      · exact e (h.sep s t g h1 hl h2 hz)
  · obtain ⟨h1, h2, h3⟩ := h.virgin s hs
    have hne : s ≠ t := fun e => by subst e; rw [h1] at hl; cases hl
    refine ⟨by rw [lkf_one, if_neg hne]; exact h1, h2, fun s' => ?_⟩
    rw [lkf_one]
    split
    · exact fun hm => by cases hm
    · exact h3 s'
end

end Go.Proofs.Ytokhfcfnhgianaa
/-
  What each operation does to an abstract state.
-/
namespace Go.Proofs.Ytokhfcfnhgianaa
open Go.RowKit
set_option linter.unusedVariables false

def AgL (S : Nat → AV) : List (Operand × AV) → Prop
  | [] => True
  | (x, v) :: r => Ag S x v ∧ AgL S r
def OgL (O : Nat → OB) : List (Nat × OB) → Prop
  | [] => True
  | (t, v) :: r => O t = v ∧ OgL O r
def VgL (V : Nat → Prop) : List Nat → Prop
  | [] => True
  | t :: r => V t ∧ VgL V r
def UgL (N : Nat) : List (Nat × AV) → Prop
  | [] => True
  | (d, _) :: r => Nat.blt d N = true ∧ UgL N r

/-- The operation, carried out in a state in which 'R' and 'RO' are read, leaves U in slots, UO in objects; 'NT': tags that it takes. -/
def OpX (P : Program) (o : Oper) (R : List (Operand × AV)) (RO : List (Nat × OB)) (NT : List Nat) (U : List (Nat × AV)) (UO : List (Nat × OB)) : Prop :=
  ∀ (cx : Cx) (S : Nat → AV) (O : Nat → OB) (V : Nat → Prop) (a : Act) (w : World), AgL S R → OgL O RO → VgL V NT → UgL cx.N U → Inv cx S O V a w →
    ∀ (K : Act → World → Prop) (Q : Exit → Act → World → Prop), (∀ a' w', Inv cx (lkf S U) (lkf O UO) (fun t => V t ∧ t ∉ NT) a' w' → K a' w') → o.wp P a w K Q

theorem Good.weak {cx : Cx} {S : Nat → AV} {O : Nat → OB} {V V' : Nat → Prop} {a : Act} {w : World} {ρ : Nat → Value} {Z : Nat → Prop}
    (h : Good cx S O V a w ρ Z) (hv : ∀ t, V' t → V t) : Good cx S O V' a w ρ Z :=
  ⟨h.size, h.defers, h.slot, h.obj, h.sep, h.out, h.zlt, fun t ht => h.virgin t (hv t ht), h.os, h.tape, h.output, h.big, h.old, h.pin, fun t ht => h.vlo t (hv t ht), h.zin, h.zout⟩

theorem blt_lt {d n : Nat} (h : Nat.blt d n = true) : d < n := by
  have : d + 1 ≤ n := by simpa [Nat.blt] using h
  omega

section
variable {P : Program} {R : List (Operand × AV)} {RO : List (Nat × OB)}

theorem opx_val {o : Oper} {d : Nat} (hd : o.dst = some d) {x : AV}
    (H : ∀ (cx : Cx) (S : Nat → AV) (O : Nat → OB) (V : Nat → Prop) (a : Act) (w : World) (ρ : Nat → Value) (Z : Nat → Prop), Good cx S O V a w ρ Z → AgL S R → OgL O RO →
      ∃ v, (execOp a.eval o).run P w = .ok (.value v) w ∧ DA ρ Z w x v ∧ ∀ t ∈ x.tags, ¬ V t) : OpX P o R RO [] [(d, x)] [] := by
  intro cx S O V a w hR hO _ hU ⟨ρ, Z, hg⟩ K Q hK
  obtain ⟨v, hrun, hx, hv⟩ := H cx S O V a w ρ Z hg hR hO
  unfold Oper.wp
  rw [hrun]
  show K (a.put o.dst v) w
  rw [hd]
  exact hK _ _ ⟨ρ, Z, (hg.put (blt_lt hU.1) hx hv).weak fun t ht => ht.1⟩

/-- A new block, its address (or slice) in slot d. -/
theorem opx_new {o : Oper} {d t : Nat} (hd : o.dst = some d) {x : A1} {ob : OB} (hx : x = .own t ∨ x = .ref t 0)
    (H : ∀ (cx : Cx) (S : Nat → AV) (O : Nat → OB) (V : Nat → Prop) (a : Act) (w : World) (ρ : Nat → Value) (Z : Nat → Prop), Good cx S O V a w ρ Z → AgL S R → OgL O RO → V t →
      ∃ v w', (execOp a.eval o).run P w = .ok (.value v) w' ∧ w.grownBy w' none ∧ DO (fun s => if s = t then v else ρ s) Z w' t ob ∧ (∀ g, blk v = some g → w.heap.size ≤ g) ∧
        (∀ s ∈ ob.tags, ¬ V s) ∧ v.oneCell' = true ∧ (x = .ref t 0 → ∃ g, v = .pointer (some ⟨g, 0, none⟩))) : OpX P o R RO [t] [(d, .r (.one x))] [(t, ob)] := by
  intro cx S O V a w hR hO hV hU ⟨ρ, Z, hg⟩ K Q hK
  obtain ⟨v, w', hrun, hgr, hob, hblk, htags, h1, hr⟩ := H cx S O V a w ρ Z hg hR hO hV.1
  unfold Oper.wp
  rw [hrun]
  show K (a.put o.dst v) w'
  rw [hd]
  have hn := hg.new hV.1 hgr hob hblk htags
  refine hK _ _ ⟨_, Z, (hn.put (blt_lt hU.1) ?_ ?_).weak fun s hs => ⟨hs.1, fun e => hs.2 (by simp [e])⟩⟩
  · rcases hx with rfl | rfl
    · exact ⟨by simp, h1⟩
    · obtain ⟨g, rfl⟩ := hr rfl
      exact ⟨g, 0, by simp [Value.place], rfl⟩
  · intro s hs hvs
    rcases hx with rfl | rfl <;> simp [AV.tags, AR.tags, A1.tag] at hs <;> exact hvs.2 hs

theorem da_raw {ρ : Nat → Value} {Z : Nat → Prop} {w : World} {u v : Value} (h : DA ρ Z w (.raw u) v) : v = u := by
  have h' : DC Z w (.raw u) v := h
  cases h'; rfl
theorem da_mk {ρ : Nat → Value} {Z : Nat → Prop} {w : World} {u : Value} (h : u.oneCell' = true) : DA ρ Z w (.raw u) u := DC.raw u h

def InR (n : Int) : Prop := -9223372036854775808 ≤ n ∧ n ≤ 9223372036854775807

variable {d : Nat} {x y z : Operand} {t t' ty : TypeId} {pos : String} {af : Array Edge} {gd : Option (Nat × Bool)}

theorem opx_move (v : AV) : OpX P ⟨some d, .move x, ty, pos, af, gd⟩ [(x, v)] [] [] [(d, v)] [] :=
  opx_val rfl fun cx S O V a w ρ Z hg hR _ => ⟨a.eval x, rfl, hg.ag hR.1, hg.agv hR.1⟩
theorem opx_assign (v : AV) : OpX P ⟨some d, .assign x, ty, pos, af, gd⟩ [(x, v)] [] [] [(d, v)] [] :=
  opx_val rfl fun cx S O V a w ρ Z hg hR _ => ⟨a.eval x, rfl, hg.ag hR.1, hg.agv hR.1⟩

theorem opx_pick_t {b : Bool} (v : AV) (hb : b = true) : OpX P ⟨some d, .pick x y z, ty, pos, af, gd⟩ [(x, .b b), (y, v)] [] [] [(d, v)] [] :=
  opx_val rfl fun cx S O V a w ρ Z hg hR _ => by
    have h1 := da_raw (hg.ag hR.1)
    refine ⟨a.eval y, ?_, hg.ag hR.2.1, hg.agv hR.2.1⟩
    simp [execOp, h1, asBool, hb]
theorem opx_pick_f {b : Bool} (v : AV) (hb : b = false) : OpX P ⟨some d, .pick x y z, ty, pos, af, gd⟩ [(x, .b b), (z, v)] [] [] [(d, v)] [] :=
  opx_val rfl fun cx S O V a w ρ Z hg hR _ => by
    have h1 := da_raw (hg.ag hR.1)
    refine ⟨a.eval z, ?_, hg.ag hR.2.1, hg.agv hR.2.1⟩
    simp [execOp, h1, asBool, hb]

theorem opx_int (op : BinOp) (k : IntKind) (m n : Int) (r : Value) (hr1 : r.oneCell' = true)
    (h : ∀ (w : World) (x y : Operand), (do eqGuard op t x y (.int k m) (.int k n); binOp op t (.int k m) (.int k n) : Sem Value).run P w = .ok r w) :
    OpX P ⟨some d, .binOp op t x y t', ty, pos, af, gd⟩ [(x, .raw (.int k m)), (y, .raw (.int k n))] [] [] [(d, .raw r)] [] :=
  opx_val rfl fun cx S O V a w ρ Z hg hR _ => by
    have h1 := da_raw (hg.ag hR.1)
    have h2 := da_raw (hg.ag hR.2.1)
    refine ⟨r, ?_, da_mk hr1, by simp [AV.tags, AR.tags, A1.tag]⟩
    have := h w x y
    simp only [execOp, h1, h2]
    rw [Sem.run_bind, this]; rfl

theorem wrap_in {n : Int} (h : InR n) : IntKind.i64.wrap n = n := IntWalk.i64_in n h

theorem opx_add {m n : Int} (h : InR (m + n)) : OpX P ⟨some d, .binOp .add t x y t', ty, pos, af, gd⟩ [(x, .i m), (y, .i n)] [] [] [(d, .i (m + n))] [] :=
  opx_int .add .i64 m n _ rfl fun w x y => by simp [eqGuard, binOp, Op.intArith, wrap_in h]
theorem opx_sub {m n : Int} (h : InR (m - n)) : OpX P ⟨some d, .binOp .sub t x y t', ty, pos, af, gd⟩ [(x, .i m), (y, .i n)] [] [] [(d, .i (m - n))] [] :=
  opx_int .sub .i64 m n _ rfl fun w x y => by simp [eqGuard, binOp, Op.intArith, wrap_in h]
/-- '/' of a number that is not negative by a positive one. -/
theorem opx_quo {m n : Int} (h : InR m) (h0 : 0 ≤ m) (h1 : 1 ≤ n) : OpX P ⟨some d, .binOp .quo t x y t', ty, pos, af, gd⟩ [(x, .i m), (y, .i n)] [] [] [(d, .i (m / n))] [] :=
  opx_int .quo .i64 m n _ rfl fun w x y => by
    have hn : n ≠ 0 := by omega
    simp [eqGuard, binOp, Op.intDiv, hn, IntWalk.i64_quo m n ⟨h0, h.2, h1⟩]
theorem opx_rem {m n : Int} (h0 : 0 ≤ m) (h1 : n ≠ 0) : OpX P ⟨some d, .binOp .rem t x y t', ty, pos, af, gd⟩ [(x, .i m), (y, .i n)] [] [] [(d, .i (m % n))] [] :=
  opx_int .rem .i64 m n _ rfl fun w x y => by
    simp [eqGuard, binOp, Op.intDiv, h1, IntWalk.rem_in m n h0]
theorem opx_lss {k : IntKind} {m n : Int} : OpX P ⟨some d, .binOp .lss t x y t', ty, pos, af, gd⟩ [(x, .raw (.int k m)), (y, .raw (.int k n))] [] [] [(d, .b (decide (m < n)))] [] :=
  opx_int .lss k m n _ rfl fun w x y => by simp [eqGuard, binOp, Op.intCmp]
theorem opx_leq {k : IntKind} {m n : Int} : OpX P ⟨some d, .binOp .leq t x y t', ty, pos, af, gd⟩ [(x, .raw (.int k m)), (y, .raw (.int k n))] [] [] [(d, .b (decide (m ≤ n)))] [] :=
  opx_int .leq k m n _ rfl fun w x y => by simp [eqGuard, binOp, Op.intCmp]
theorem opx_gtr {k : IntKind} {m n : Int} : OpX P ⟨some d, .binOp .gtr t x y t', ty, pos, af, gd⟩ [(x, .raw (.int k m)), (y, .raw (.int k n))] [] [] [(d, .b (decide (n < m)))] [] :=
  opx_int .gtr k m n _ rfl fun w x y => by simp [eqGuard, binOp, Op.intCmp]
theorem opx_geq {k : IntKind} {m n : Int} : OpX P ⟨some d, .binOp .geq t x y t', ty, pos, af, gd⟩ [(x, .raw (.int k m)), (y, .raw (.int k n))] [] [] [(d, .b (decide (n ≤ m)))] [] :=
  opx_int .geq k m n _ rfl fun w x y => by simp [eqGuard, binOp, Op.intCmp]
theorem opx_eql {k : IntKind} {m n : Int} : OpX P ⟨some d, .binOp .eql t x y t', ty, pos, af, gd⟩ [(x, .raw (.int k m)), (y, .raw (.int k n))] [] [] [(d, .b (decide (m = n)))] [] :=
  opx_int .eql k m n _ rfl fun w x y => by simp [eqGuard, binOp, Op.intCmp]; rfl
theorem opx_neq {k : IntKind} {m n : Int} : OpX P ⟨some d, .binOp .neq t x y t', ty, pos, af, gd⟩ [(x, .raw (.int k m)), (y, .raw (.int k n))] [] [] [(d, .b (!decide (m = n)))] [] :=
  opx_int .neq k m n _ rfl fun w x y => by simp [eqGuard, binOp, Op.intCmp]; rfl

theorem opx_str (op : BinOp) (m n : List UInt8) (r : Value) (hr1 : r.oneCell' = true)
    (h : ∀ (w : World) (x y : Operand), (do eqGuard op t x y (.string ⟨m.toArray⟩) (.string ⟨n.toArray⟩); binOp op t (.string ⟨m.toArray⟩) (.string ⟨n.toArray⟩) : Sem Value).run P w = .ok r w) :
    OpX P ⟨some d, .binOp op t x y t', ty, pos, af, gd⟩ [(x, .str m), (y, .str n)] [] [] [(d, .raw r)] [] :=
  opx_val rfl fun cx S O V a w ρ Z hg hR _ => by
    have h1 := da_raw (hg.ag hR.1)
    have h2 := da_raw (hg.ag hR.2.1)
    refine ⟨r, ?_, da_mk hr1, by simp [AV.tags, AR.tags, A1.tag]⟩
    have := h w x y
    simp only [execOp, h1, h2]
    rw [Sem.run_bind, this]; rfl

theorem ba_append (m n : List UInt8) : (⟨m.toArray⟩ : ByteArray) ++ ⟨n.toArray⟩ = ⟨(m ++ n).toArray⟩ := by
  apply ByteArray.ext
  simp

theorem opx_cat {m n : List UInt8} (h : m.length + n.length ≤ 9223372036854775807) : OpX P ⟨some d, .binOp .add t x y t', ty, pos, af, gd⟩ [(x, .str m), (y, .str n)] [] [] [(d, .str (m ++ n))] [] :=
  opx_str .add m n _ rfl fun w x y => by
    have : ¬ (((⟨m.toArray⟩ : ByteArray).size + (⟨n.toArray⟩ : ByteArray).size : Nat) : Int) > IntKind.i64.max := by
      have h1 : (⟨m.toArray⟩ : ByteArray).size = m.length := by simp [ByteArray.size]
      have h2 : (⟨n.toArray⟩ : ByteArray).size = n.length := by simp [ByteArray.size]
      rw [h1, h2]
      have : IntKind.i64.max = 9223372036854775807 := by decide
      rw [this]; omega
    simp only [eqGuard, binOp, Op.stringOp]
    rw [if_neg this, ba_append]
    rfl
theorem opx_seql {m n : List UInt8} : OpX P ⟨some d, .binOp .eql t x y t', ty, pos, af, gd⟩ [(x, .str m), (y, .str n)] [] [] [(d, .b (decide (m = n)))] [] :=
  opx_str .eql m n _ rfl fun w x y => by
    simp only [eqGuard, binOp, Op.stringOp]
    simp
    by_cases h : m = n <;> simp [h]
theorem opx_sneq {m n : List UInt8} : OpX P ⟨some d, .binOp .neq t x y t', ty, pos, af, gd⟩ [(x, .str m), (y, .str n)] [] [] [(d, .b (!decide (m = n)))] [] :=
  opx_str .neq m n _ rfl fun w x y => by
    simp only [eqGuard, binOp, Op.stringOp]
    simp
    by_cases h : m = n <;> simp [h]
/-- 'm ≤ n', 'm < n', byte by byte. -/
def sle (m n : List UInt8) : Bool := Op.bytesLess m n || m == n
def slt (m n : List UInt8) : Bool := Op.bytesLess m n
theorem opx_sleq {m n : List UInt8} : OpX P ⟨some d, .binOp .leq t x y t', ty, pos, af, gd⟩ [(x, .str m), (y, .str n)] [] [] [(d, .b (sle m n))] [] :=
  opx_str .leq m n _ rfl fun w x y => by simp only [eqGuard, binOp, Op.stringOp]; simp [sle]
theorem opx_slss {m n : List UInt8} : OpX P ⟨some d, .binOp .lss t x y t', ty, pos, af, gd⟩ [(x, .str m), (y, .str n)] [] [] [(d, .b (slt m n))] [] :=
  opx_str .lss m n _ rfl fun w x y => by simp only [eqGuard, binOp, Op.stringOp]; simp [slt]
theorem opx_sgtr {m n : List UInt8} : OpX P ⟨some d, .binOp .gtr t x y t', ty, pos, af, gd⟩ [(x, .str m), (y, .str n)] [] [] [(d, .b (!sle m n))] [] :=
  opx_str .gtr m n _ rfl fun w x y => by simp only [eqGuard, binOp, Op.stringOp]; simp [sle]

theorem opx_not {b : Bool} : OpX P ⟨some d, .unOp .not t x, ty, pos, af, gd⟩ [(x, .b b)] [] [] [(d, .b (!b))] [] :=
  opx_val rfl fun cx S O V a w ρ Z hg hR _ => by
    have h1 := da_raw (hg.ag hR.1)
    exact ⟨.bool (!b), by simp [execOp, h1, Op.unary], da_mk rfl, by simp [AV.tags, AR.tags, A1.tag]⟩
theorem drl_at {ρ : Nat → Value} {Z : Nat → Prop} {w : World} : ∀ {xs : List AR} {us : List Value} {i : Nat} {r : AR}, DRL ρ Z w xs us → xs[i]? = some r → ∃ v, us[i]? = some v ∧ DR ρ Z w r v
  | x :: xs, u :: us, 0, r, h, hi => by cases hi; exact ⟨u, rfl, h.1⟩
  | x :: xs, u :: us, i + 1, r, h, hi => drl_at (xs := xs) (us := us) (i := i) h.2 (by simpa using hi)
  | [], _, _, _, _, hi => by simp at hi
  | _ :: _, [], _, _, h, _ => h.elim

theorem opx_extract {xs : List AR} {i : Nat} (r : AR) (hi : xs[i]? = some r) : OpX P ⟨some d, .extract x i, ty, pos, af, gd⟩ [(x, .tup xs)] [] [] [(d, .r r)] [] :=
  opx_val rfl fun cx S O V a w ρ Z hg hR _ => by
    obtain ⟨us, h1, h2⟩ := hg.ag hR.1
    obtain ⟨v, h3, h4⟩ := drl_at h2 hi
    refine ⟨v, by simp [execOp, h1, Instr.extract, h3], h4, fun t ht => hg.agv hR.1 t ?_⟩
    simp only [AV.tags, List.mem_flatMap]
    exact ⟨r, List.mem_of_getElem? hi, ht⟩
end
end Go.Proofs.Ytokhfcfnhgianaa
