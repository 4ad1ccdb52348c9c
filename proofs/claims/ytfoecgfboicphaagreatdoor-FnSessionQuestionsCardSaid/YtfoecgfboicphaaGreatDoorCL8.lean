/- Texts: Dat Dat2 Dat3 PL Eng15 Eng19 -/
import Derived.Test.YtfoecgfboicphaaGreatDoorCL7
import Derived.WalkKit
import Derived.ProofKit
import Derived.OpenShut
import Derived.JoinedCond
import Derived.Below
import Derived.ChangeSame
/-
  The data of the statements, as plain lists.
-/
namespace Go.Proofs.YtfoecgfboicphaaGreatDoor
open Go.RowKit
set_option linter.unusedVariables false

abbrev cI (n : Int) : CV := .raw (.int .i64 n)
abbrev rI (n : Int) : AR := .one (.c (cI n))
abbrev rB (b : Bool) : AR := .one (.c (.raw (.bool b)))
abbrev rStr (s : List UInt8) : AR := .one (.c (.raw (.string ⟨s.toArray⟩)))
abbrev ptA (t v : Int) : AR := .agg [.c (cI t), .c (cI v)]

/-- Points, numbers and bytes as rows of cells. -/
abbrev ptR (p : Int × Int) : List CV := [cI p.1, cI p.2]
abbrev inR (n : Int) : List CV := [cI n]
def ptRs (ps : List (Int × Int)) : List (List CV) := ps.map ptR
def inRs (ns : List Int) : List (List CV) := ns.map inR
def byR (b : UInt8) : List CV := [.raw (.int .u8 b.toNat)]
def byRs (bs : List UInt8) : List (List CV) := bs.map byR
abbrev slP (ps : List (Int × Int)) : AR := .one (.c (.sl 2 (ptRs ps)))
abbrev slI (ns : List Int) : AR := .one (.c (.sl 1 (inRs ns)))
abbrev slB (bs : List UInt8) : AR := .one (.c (.sl 1 (byRs bs)))

theorem ptRs_len {ps : List (Int × Int)} : (ptRs ps).length = ps.length := by simp [ptRs]
theorem inRs_len {ns : List Int} : (inRs ns).length = ns.length := by simp [inRs]
theorem byRs_len {bs : List UInt8} : (byRs bs).length = bs.length := by simp [byRs]
theorem ptRs_at {ps : List (Int × Int)} {k : Nat} {p : Int × Int} (h : ps[k]? = some p) : (ptRs ps)[k]? = some (ptR p) := by simp [ptRs, h]
theorem inRs_at {ns : List Int} {k : Nat} {n : Int} (h : ns[k]? = some n) : (inRs ns)[k]? = some (inR n) := by simp [inRs, h]
theorem byRs_at {bs : List UInt8} {k : Nat} {b : UInt8} (h : bs[k]? = some b) : (byRs bs)[k]? = some (byR b) := by simp [byRs, h]
theorem byRs_take {bs : List UInt8} {k : Nat} : ((byRs bs).take k).drop 0 = byRs (bs.take k) := by simp [byRs, List.map_take]
theorem ptRs_app {ps : List (Int × Int)} {p : Int × Int} : ptRs ps ++ [ptR p] = ptRs (ps ++ [p]) := by simp [ptRs]
theorem all_snoc {α : Type} {p : α → Prop} {xs : List α} {x : α} (h : ∀ y ∈ xs, p y) (hx : p x) : ∀ y ∈ xs ++ [x], p y := fun y hy => (List.mem_append.1 hy).elim (h y) fun h1 => by rw [List.mem_singleton.1 h1]; exact hx
def okPt (p : Int × Int) : Prop := 0 ≤ p.1 ∧ p.1 ≤ 1000 ∧ -1000 ≤ p.2 ∧ p.2 ≤ 1000
def okAt (ps : List (Int × Int)) (k : Nat) : Prop := ∀ p, ps[k]? = some p → okPt p ∧ (k = 0 ∨ ∀ q, ps[k - 1]? = some q → q.1 < p.1)
def VS (ps : List (Int × Int)) : Prop := ps.length ≤ 16 ∧ ∀ k, okAt ps k
open Classical in
noncomputable def vsB (ps : List (Int × Int)) : Bool := decide (VS ps)
theorem vsB_t {ps : List (Int × Int)} (h : VS ps) : vsB ps = true := by simp [vsB, h]
theorem vsB_f {ps : List (Int × Int)} (h : ¬ VS ps) : vsB ps = false := by simp [vsB, h]
theorem vsB_iff {ps : List (Int × Int)} : vsB ps = true ↔ VS ps := by simp [vsB]
theorem vsB_bad {ps : List (Int × Int)} {k : Nat} {p : Int × Int} (hp : ps[k]? = some p) (h : ¬ okPt p) : vsB ps = false := vsB_f fun hv => h (hv.2 k p hp).1
theorem vsB_ord {ps : List (Int × Int)} {k : Nat} {p q : Int × Int} (hp : ps[k + 1]? = some p) (hq : ps[k]? = some q) (h : p.1 ≤ q.1) : vsB ps = false := vsB_f fun hv => by
  rcases (hv.2 (k + 1) p hp).2 with h1 | h1
  · omega
  · have := h1 q hq; omega
theorem vsB_long {ps : List (Int × Int)} (h : 16 < ps.length) : vsB ps = false := vsB_f fun hv => by have := hv.1; omega
theorem okAt_0 {ps : List (Int × Int)} {p : Int × Int} (hp : ps[0]? = some p) (h : okPt p) : okAt ps 0 := fun p' h' => by rw [hp] at h'; cases h'; exact ⟨h, .inl rfl⟩
theorem okAt_s {ps : List (Int × Int)} {k : Nat} {p q : Int × Int} (hp : ps[k + 1]? = some p) (hq : ps[k]? = some q) (h : okPt p) (h2 : q.1 < p.1) : okAt ps (k + 1) := fun p' h' => by
  rw [hp] at h'; cases h'
  refine ⟨h, .inr fun q' hq' => ?_⟩
  rw [show k + 1 - 1 = k from rfl, hq] at hq'; cases hq'; exact h2
theorem VS_of {ps : List (Int × Int)} (h : ps.length ≤ 16) (h2 : ∀ k, k < ps.length → okAt ps k) : vsB ps = true := vsB_t ⟨h, fun k p hp => by
  rcases Nat.lt_or_ge k ps.length with h3 | h3
  · exact h2 k h3 p hp
  · rw [List.getElem?_eq_none h3] at hp; cases hp⟩

theorem xor_nn {a b : Int} (h1 : 0 ≤ a) (h2 : a < 4611686018427387904) (h3 : 0 ≤ b) (h4 : b < 4611686018427387904) : 0 ≤ bits .xor .i64 a b := by
  obtain ⟨A, rfl⟩ := Int.eq_ofNat_of_zero_le h1
  obtain ⟨B, rfl⟩ := Int.eq_ofNat_of_zero_le h3
  have hx : A ^^^ B < 2 ^ 62 := Nat.xor_lt_two_pow (by omega) (by omega)
  show 0 ≤ IntKind.i64.wrap ((BitVec.ofInt 64 (A : Int) ^^^ BitVec.ofInt 64 (B : Int)).toNat : Int)
  have e1 : (BitVec.ofInt 64 (A : Int)).toNat = A := by rw [BitVec.toNat_ofInt]; omega
  have e2 : (BitVec.ofInt 64 (B : Int)).toNat = B := by rw [BitVec.toNat_ofInt]; omega
  rw [BitVec.toNat_xor, e1, e2, wrap_in ⟨by omega, by omega⟩]
  omega
theorem wrap_u8 (b : UInt8) : IntKind.i64.wrap (b.toNat : Int) = (b.toNat : Int) := by
  have := b.toNat_lt
  exact wrap_in ⟨by omega, by omega⟩
theorem al_xor {P : Program} {ops : Array Oper} {cx : Cx} {Q : APost} {rest : List Oper} {l : SL} {mm : OL} {nn d : Nat} {t t' : TypeId} {x y : Operand} {ty : TypeId} {pos : String} {af : Array Edge} {m n : Int}
    (hR : AgL (lk .dead l) [(x, .i m), (y, .i n)]) (h1 : 0 ≤ m ∧ m < 4611686018427387904) (h2 : 0 ≤ n ∧ n < 4611686018427387904) (hd : Nat.blt d cx.N = true)
    (k : ∀ z : Int, 0 ≤ z → AL P ops cx Q rest ((d, .i z) :: l) mm nn) : AL P ops cx Q (⟨some d, .binOp .xor t x y t', ty, pos, af, none⟩ :: rest) l mm nn :=
  al_v (opx_bits (.inl rfl)) hR trivial hd (k _ (xor_nn h1.1 h1.2 h2.1 h2.2))

abbrev rdO (bs : List UInt8) (p : Int) : OB := .box 62 [.c (.sl 1 (byRs bs)), .c (cI p)]
abbrev rdA : AR := .one (.ref 0 0)

/-- What a function of the reader answers: a number; a slice. -/
abbrev RdV (bs : List UInt8) (Φ : Int → Int → Prop) (rs : List AR) (all : List OB) : Prop := ∃ r q : Int, rs = [rI r] ∧ all = [rdO bs q] ∧ Φ r q
section
variable {P : Program} {ops : Array Oper} {cx : Cx} {Q : APost} {rest : List Oper} {l : SL} {m : OL} {n d : Nat} {ty : TypeId} {pos : String} {af : Array Edge} {f : FuncId} {xs : List Operand} {ats : Array TypeId} {args : List AR}
theorem al_newrd (ha : Args (lk .dead l) (lk .gone m) (cpi [] n) false xs args) (hd : Nat.blt d cx.N = true) (hc : Con P f args [] (fun rs all => ∃ bs : List UInt8, rs = [rdA] ∧ all = [rdO bs 0] ∧ bs.length ≤ 1048576))
    (k : ∀ bs : List UInt8, bs.length ≤ 1048576 → AL P ops cx Q rest ((d, .ref n 0) :: l) ((n, rdO bs 0) :: m) (n + 1)) :
    AL P ops cx Q (⟨some d, .call { callee := .value (.func f), args := xs.toArray, argTypes := ats }, ty, pos, af, none⟩ :: rest) l m n :=
  al_call hc ha hd fun rs all ⟨bs, h1, h2, h3⟩ => by
    subst h1 h2
    exact k bs h3
theorem al_rdv {bs : List UInt8} {p : Int} {Φ : Int → Int → Prop} (t : Nat) (hm : lk .gone m t = rdO bs p) (ht : Nat.blt t n = true) (ha : Args (lk .dead l) (lk .gone m) (cpi [t] n) false xs args) (hd : Nat.blt d cx.N = true)
    (hc : Con P f args [rdO bs p] (RdV bs Φ)) (k : ∀ r q, Φ r q → AL P ops cx Q rest ((d, .i r) :: l) ((t, rdO bs q) :: m) n) :
    AL P ops cx Q (⟨some d, .call { callee := .value (.func f), args := xs.toArray, argTypes := ats }, ty, pos, af, none⟩ :: rest) l m n :=
  al_call_m [t] hc (by simp [nodupB, ht]) ⟨hm, trivial⟩ ha hd fun rs all _ ⟨r, q, h1, h2, h3⟩ => by
    subst h1 h2
    exact k r q h3
end
section
variable {P : Program} {ops : Array Oper} {cx : Cx} {Q : APost} {rest : List Oper} {l : SL} {m : OL} {n d : Nat} {t t' : TypeId} {x y : Operand} {ty : TypeId} {pos : String} {af : Array Edge}
theorem al_litI {T e bytes cnt : Nat} {zs : List Value} [hT : SlT P T e 1 bytes zs] (ns : List Int) {ps : List (Nat × Operand)} (h : P1 (lk .dead l) 0 ps (ns.map cI)) (hn : ns.length = cnt) (hb : Nat.ble cnt 16777216 = true) (hd : Nat.blt d cx.N = true)
    (k : AL P ops cx Q rest ((d, .sl 1 (inRs ns)) :: (d, .own n) :: l) ((n, .froz 1 (inRs ns)) :: (n, .row 1 e (inRs ns)) :: m) (n + 1)) :
    AL P ops cx Q (⟨some d, .buildSlice T cnt ps.toArray, ty, pos, af, none⟩ :: rest) l m n := by
  have e1 : (ns.map cI).map (fun c => [c]) = inRs ns := by simp [inRs]
  have hx := opx_lit1 (hT := hT) (d := d) (ty := ty) (pos := pos) (af := af) (gd := none) (u := n) h (by simpa using hn) hb
  rw [e1] at hx
  refine al_n hx h.ag trivial hd ?_
  refine al_le (le_freeze n (wd := 1) (e := e) (rows := inRs ns) (by simp [lk])) ?_
  exact al_le (le_frozSl d (t := n) (wd := 1) (rows := inRs ns) (by simp [lk]) (by simp [lk])) k
theorem al_iaI {T e bytes : Nat} {zs : List Value} [hT : SlT P T e 1 bytes zs] {ns : List Int} {i : Int} (hR : AgL (lk .dead l) [(x, .sl 1 (inRs ns)), (y, .i i)]) (h : 0 ≤ i ∧ i < ns.length) (hd : Nat.blt d cx.N = true)
    (k : ∀ v, v ∈ ns → AL P ops cx Q rest ((d, .imm (inR v)) :: l) m n) : AL P ops cx Q (⟨some d, .indexAddr T x y, ty, pos, af, none⟩ :: rest) l m n := by
  have hlt : i.toNat < ns.length := by omega
  exact al_v (opx_ia_sl2 (k := i.toNat) (inRs_at (List.getElem?_eq_getElem hlt)) (by omega)) hR trivial hd (k _ (List.getElem_mem hlt))
end

section
variable {P : Program} {ops : Array Oper} {cx : Cx} {Q : APost} {rest : List Oper} {l : SL} {m : OL} {n d d1 u : Nat} {x y : Operand} {ty ty1 : TypeId} {pos pos1 : String} {af af1 : Array Edge} {T e bytes : Nat} {zs : List Value}
theorem al_pushP [hT : SlT P T e 2 bytes zs] {ps : List (Int × Int)} {a b : Int} (hx : AgL (lk .dead l) [(x, .agg [.c (cI a), .c (cI b)])]) (hy : Ag (lk .dead ((d1, .own n) :: l)) y (.own u)) (ho : lk .gone ((n, .row 2 e [ptR (a, b)]) :: m) u = .row 2 e (ptRs ps))
    (hb : Nat.ble bytes 1000 = true) (hd1 : Nat.blt d1 cx.N = true) (hd : Nat.blt d cx.N = true) (hl : ps.length ≤ 1000000000)
    (k : AL P ops cx Q rest ((d, .own (n + 1)) :: (d1, .own n) :: l) ((n + 1, .row 2 e (ptRs (ps ++ [(a, b)]))) :: (u, .gone) :: (n, .row 2 e [ptR (a, b)]) :: m) (n + 1 + 1)) :
    AL P ops cx Q (⟨some d1, .buildSlice T 1 #[(0, x)], ty1, pos1, af1, none⟩ :: ⟨some d, .call { callee := .builtin .append, args := #[y, .tmp d1], argTypes := #[T, T] }, ty, pos, af, none⟩ :: rest) l m n := by
  have hbytes : (ps.length + 1) * bytes ≤ 140737488355328 := Nat.le_trans (Nat.mul_le_mul_left _ (Nat.le_of_ble_eq_true hb)) (by omega)
  refine al_n (opx_lits2 (hT := hT) (a := cI a) (b := cI b)) hx trivial hd1 ?_
  rw [← ptRs_app] at k
  refine al_n (opx_append (hT := hT) (u := u) (n := n + 1) [(n, .row 2 e [ptR (a, b)])] (rows := ptRs ps) (news := [ptR (a, b)]) (av := .own n) (fun O hO => .inr ⟨e, hO.1⟩) (by rw [ptRs_len]; simp [maxLen]; omega) (by rw [ptRs_len]; exact hbytes)) ⟨hy, by simp [Ag, vl, lk], trivial⟩ ⟨ho, by simp [lk], trivial⟩ hd ?_
  exact k
end
end Go.Proofs.YtfoecgfboicphaaGreatDoor
/-
  Rules for lists of points, numbers, bytes, labels, texts, records, samples. Written by a program of our own.
-/
namespace Go.Proofs.YtfoecgfboicphaaGreatDoor
open Go.RowKit
set_option linter.unusedVariables false
set_option linter.unusedSimpArgs false
abbrev Str := List UInt8
abbrev cS (s : Str) : CV := .raw (.string ⟨s.toArray⟩)
abbrev lbR (x : Str × Str) : List CV := [cS x.1, cS x.2]
def lbRs (xs : List (Str × Str)) : List (List CV) := xs.map lbR
abbrev stR (x : Str) : List CV := [cS x]
def stRs (xs : List Str) : List (List CV) := xs.map stR
abbrev lcR (x : List (Str × Str)) : List CV := [.sl 2 (lbRs x)]
def lcRs (xs : List (List (Str × Str))) : List (List CV) := xs.map lcR
abbrev plR' (x : List (Int × Int)) : List CV := [.sl 2 (ptRs x)]
def plRs (xs : List (List (Int × Int))) : List (List CV) := xs.map plR'
abbrev slL (xs : List (Str × Str)) : AR := .one (.c (.sl 2 (lbRs xs)))
abbrev slS (xs : List Str) : AR := .one (.c (.sl 1 (stRs xs)))
abbrev slC (xs : List (List (Str × Str))) : AR := .one (.c (.sl 1 (lcRs xs)))
section
variable {P : Program} {ops : Array Oper} {cx : Cx} {Q : APost} {rest : List Oper} {l : SL} {m : OL} {n d d1 u : Nat} {x y : Operand} {ty ty1 : TypeId} {pos pos1 : String} {af af1 : Array Edge} {T e bytes : Nat} {zs : List Value}
theorem al_push1 [hT : SlT P T e 1 bytes zs] {rows rows' : List (List CV)} {c : CV} (he : rows ++ [[c]] = rows') (hx : AgL (lk .dead l) [(x, .c c)]) (hy : Ag (lk .dead ((d1, .own n) :: l)) y (.own u)) (ho : lk .gone ((n, .row 1 e [[c]]) :: m) u = .row 1 e rows)
    (hb : Nat.ble bytes 1000 = true) (hd1 : Nat.blt d1 cx.N = true) (hd : Nat.blt d cx.N = true) (hl : rows.length ≤ 1000000000)
    (k : AL P ops cx Q rest ((d, .own (n + 1)) :: (d1, .own n) :: l) ((n + 1, .row 1 e rows') :: (u, .gone) :: (n, .row 1 e [[c]]) :: m) (n + 1 + 1)) :
    AL P ops cx Q (⟨some d1, .buildSlice T 1 #[(0, x)], ty1, pos1, af1, none⟩ :: ⟨some d, .call { callee := .builtin .append, args := #[y, .tmp d1], argTypes := #[T, T] }, ty, pos, af, none⟩ :: rest) l m n := by
  subst he
  have hbytes : (rows.length + 1) * bytes ≤ 140737488355328 := Nat.le_trans (Nat.mul_le_mul_left _ (Nat.le_of_ble_eq_true hb)) (by omega)
  refine al_n (opx_lit1 (hT := hT) (S := lk .dead l) (ps := [(0, x)]) (cs := [c]) (.cons hx.1 (.nil _)) rfl rfl) hx trivial hd1 ?_
  refine al_n (opx_append (hT := hT) (u := u) (n := n + 1) [(n, .row 1 e [[c]])] (rows := rows) (news := [[c]]) (av := .own n) (fun O hO => .inr ⟨e, hO.1⟩) (by simp [maxLen]; omega) (by simpa using hbytes)) ⟨hy, by simp [Ag, vl, lk], trivial⟩ ⟨ho, by simp [lk], trivial⟩ hd ?_
  exact k
theorem al_push2 [hT : SlT P T e 2 bytes zs] {rows rows' : List (List CV)} {a b : CV} (he : rows ++ [[a, b]] = rows') (hx : AgL (lk .dead l) [(x, .agg [.c a, .c b])]) (hy : Ag (lk .dead ((d1, .own n) :: l)) y (.own u)) (ho : lk .gone ((n, .row 2 e [[a, b]]) :: m) u = .row 2 e rows)
    (hb : Nat.ble bytes 1000 = true) (hd1 : Nat.blt d1 cx.N = true) (hd : Nat.blt d cx.N = true) (hl : rows.length ≤ 1000000000)
    (k : AL P ops cx Q rest ((d, .own (n + 1)) :: (d1, .own n) :: l) ((n + 1, .row 2 e rows') :: (u, .gone) :: (n, .row 2 e [[a, b]]) :: m) (n + 1 + 1)) :
    AL P ops cx Q (⟨some d1, .buildSlice T 1 #[(0, x)], ty1, pos1, af1, none⟩ :: ⟨some d, .call { callee := .builtin .append, args := #[y, .tmp d1], argTypes := #[T, T] }, ty, pos, af, none⟩ :: rest) l m n := by
  subst he
  have hbytes : (rows.length + 1) * bytes ≤ 140737488355328 := Nat.le_trans (Nat.mul_le_mul_left _ (Nat.le_of_ble_eq_true hb)) (by omega)
  refine al_n (opx_lits2 (hT := hT) (a := a) (b := b)) hx trivial hd1 ?_
  refine al_n (opx_append (hT := hT) (u := u) (n := n + 1) [(n, .row 2 e [[a, b]])] (rows := rows) (news := [[a, b]]) (av := .own n) (fun O hO => .inr ⟨e, hO.1⟩) (by simp [maxLen]; omega) (by simpa using hbytes)) ⟨hy, by simp [Ag, vl, lk], trivial⟩ ⟨ho, by simp [lk], trivial⟩ hd ?_
  exact k
theorem ad_push2 {ol : List Oper} {done : List Keys} [hT : SlT P T e 2 bytes zs] {rows rows' : List (List CV)} {a b : CV} (he : rows ++ [[a, b]] = rows') (hx : AgL (lk .dead l) [(x, .agg [.c a, .c b])]) (hy : Ag (lk .dead ((d1, .own n) :: l)) y (.own u)) (ho : lk .gone ((n, .row 2 e [[a, b]]) :: m) u = .row 2 e rows)
    (hb : Nat.ble bytes 1000 = true) (hd1 : Nat.blt d1 cx.N = true) (hd : Nat.blt d cx.N = true) (hl : rows.length ≤ 1000000000)
    (k : AD P ol cx Q (⟨rtmps [(y, .own u), (.tmp d1, .own n)], [d], [u, n], [n + 1, u], [n + 1]⟩ :: ⟨rtmps [(x, .agg [.c a, .c b])], [d1], [], [n], [n]⟩ :: done) rest ((d, .own (n + 1)) :: (d1, .own n) :: l) ((n + 1, .row 2 e rows') :: (u, .gone) :: (n, .row 2 e [[a, b]]) :: m) (n + 1 + 1)) :
    AD P ol cx Q done (⟨some d1, .buildSlice T 1 #[(0, x)], ty1, pos1, af1, none⟩ :: ⟨some d, .call { callee := .builtin .append, args := #[y, .tmp d1], argTypes := #[T, T] }, ty, pos, af, none⟩ :: rest) l m n := by
  subst he
  have hbytes : (rows.length + 1) * bytes ≤ 140737488355328 := Nat.le_trans (Nat.mul_le_mul_left _ (Nat.le_of_ble_eq_true hb)) (by omega)
  refine ad_n (opx_lits2 (hT := hT) (a := a) (b := b)) hx trivial hd1 ?_
  refine ad_n (opx_append (hT := hT) (u := u) (n := n + 1) [(n, .row 2 e [[a, b]])] (rows := rows) (news := [[a, b]]) (av := .own n) (fun O hO => .inr ⟨e, hO.1⟩) (by simp [maxLen]; omega) (by simpa using hbytes)) ⟨hy, by simp [Ag, vl, lk], trivial⟩ ⟨ho, by simp [lk], trivial⟩ hd ?_
  exact k
/-- 'append(s, t...)': t a value, a slice that is written no more, one of the call's own -/
theorem al_app {wd : Nat} [hT : SlT P T e wd bytes zs] {rows news rows' : List (List CV)} {av : AV} (RO : OL) (hs : ∀ O, OgL O RO → SlV O av wd news) (he : rows ++ news = rows') (hx : Ag (lk .dead l) x av) (hy : Ag (lk .dead l) y (.own u)) (ho : lk .gone m u = .row wd e rows) (hr : OgL (lk .gone m) RO)
    (hb : Nat.ble bytes 1000 = true) (hd : Nat.blt d cx.N = true) (hl : rows.length + news.length ≤ 1000000000)
    (k : AL P ops cx Q rest ((d, .own n) :: l) ((n, .row wd e rows') :: (u, .gone) :: m) (n + 1)) :
    AL P ops cx Q (⟨some d, .call { callee := .builtin .append, args := #[y, x], argTypes := #[T, T] }, ty, pos, af, none⟩ :: rest) l m n := by
  subst he
  have hbytes : (rows.length + news.length) * bytes ≤ 140737488355328 := Nat.le_trans (Nat.mul_le_mul_left _ (Nat.le_of_ble_eq_true hb)) (by omega)
  exact al_n (opx_append (hT := hT) (u := u) (n := n) RO (rows := rows) (news := news) (av := av) hs (by simp [maxLen]; omega) hbytes) ⟨hy, hx, trivial⟩ ⟨ho, hr⟩ hd k
theorem al_app0 {wd : Nat} [hT : SlT P T e wd bytes zs] {news : List (List CV)} {av : AV} (RO : OL) (hs : ∀ O, OgL O RO → SlV O av wd news) (hx : Ag (lk .dead l) x av) (hy : Ag (lk .dead l) y (.raw (.slice none 0 0))) (hr : OgL (lk .gone m) RO)
    (hb : Nat.ble bytes 1000 = true) (hd : Nat.blt d cx.N = true) (hl : news.length ≤ 1000000000)
    (k : AL P ops cx Q rest ((d, .own n) :: l) ((n, .row wd e news) :: m) (n + 1)) :
    AL P ops cx Q (⟨some d, .call { callee := .builtin .append, args := #[y, x], argTypes := #[T, T] }, ty, pos, af, none⟩ :: rest) l m n := by
  have hbytes : news.length * bytes ≤ 140737488355328 := Nat.le_trans (Nat.mul_le_mul_left _ (Nat.le_of_ble_eq_true hb)) (by omega)
  exact al_n (opx_append_nil (hT := hT) (n := n) RO (news := news) (av := av) hs (by simp [maxLen]; omega) hbytes) ⟨hy, hx, trivial⟩ hr hd k
/-- 'make([]T, 0, c)' -/
theorem al_mk0 {wd : Nat} [hT : SlT P T e wd bytes zs] {c : Int} (hx : Ag (lk .dead l) x (.i 0)) (hy : Ag (lk .dead l) y (.i c)) (hb : Nat.ble bytes 1000 = true) (hd : Nat.blt d cx.N = true) (hc : 0 ≤ c ∧ c ≤ 1000000000)
    (k : AL P ops cx Q rest ((d, .own n) :: l) ((n, .row wd e []) :: m) (n + 1)) :
    AL P ops cx Q (⟨some d, .makeSlice T x y, ty, pos, af, none⟩ :: rest) l m n := by
  obtain ⟨C, rfl⟩ : ∃ C : Nat, c = (C : Int) := ⟨c.toNat, by omega⟩
  have hbytes : bytes * C ≤ 281474976710656 := Nat.le_trans (Nat.mul_le_mul_right _ (Nat.le_of_ble_eq_true hb)) (by omega)
  exact al_n (opx_make (hT := hT) (l := 0) (c := C) rfl rfl (by omega) (by simp [maxLen]; omega) hbytes) ⟨hx, hy, trivial⟩ trivial hd k
theorem ptRs_cat {xs ys : List (Int × Int)} : ptRs xs ++ ptRs ys = ptRs (xs ++ ys) := by simp [ptRs]
theorem ptRs_cut {xs : List (Int × Int)} {a b : Nat} : ((ptRs xs).take b).drop a = ptRs ((xs.take b).drop a) := by simp [ptRs, List.map_take, List.map_drop]
theorem ptRs_hd {xs : List (Int × Int)} {b : Nat} : ((ptRs xs).take b).drop 0 = ptRs (xs.take b) := by simp [ptRs, List.map_take]
theorem ptRs_tl {xs : List (Int × Int)} {a : Nat} : ((ptRs xs).take (ptRs xs).length).drop a = ptRs (xs.drop a) := by rw [List.take_length]; simp [ptRs, List.map_drop]
theorem al_appPv [hT : SlT P T e 2 bytes zs] {xs ys : List (Int × Int)} (hx : Ag (lk .dead l) x (.sl 2 (ptRs ys))) (hy : Ag (lk .dead l) y (.own u)) (ho : lk .gone m u = .row 2 e (ptRs xs)) (hb : Nat.ble bytes 1000 = true) (hd : Nat.blt d cx.N = true) (hl : xs.length + ys.length ≤ 1000000000)
    (k : AL P ops cx Q rest ((d, .own n) :: l) ((n, .row 2 e (ptRs (xs ++ ys))) :: (u, .gone) :: m) (n + 1)) :
    AL P ops cx Q (⟨some d, .call { callee := .builtin .append, args := #[y, x], argTypes := #[T, T] }, ty, pos, af, none⟩ :: rest) l m n :=
  al_app (wd := 2) (av := .sl 2 (ptRs ys)) (rows := ptRs xs) (news := ptRs ys) [] (fun O hO => ⟨rfl, rfl⟩) ptRs_cat hx hy ho trivial hb hd (by rw [ptRs_len, ptRs_len]; exact hl) k
theorem al_appnPv [hT : SlT P T e 2 bytes zs] {ys : List (Int × Int)} (hx : Ag (lk .dead l) x (.sl 2 (ptRs ys))) (hy : Ag (lk .dead l) y (.raw (.slice none 0 0))) (hb : Nat.ble bytes 1000 = true) (hd : Nat.blt d cx.N = true) (hl : ys.length ≤ 1000000000)
    (k : AL P ops cx Q rest ((d, .own n) :: l) ((n, .row 2 e (ptRs ys)) :: m) (n + 1)) :
    AL P ops cx Q (⟨some d, .call { callee := .builtin .append, args := #[y, x], argTypes := #[T, T] }, ty, pos, af, none⟩ :: rest) l m n :=
  al_app0 (wd := 2) (av := .sl 2 (ptRs ys)) (news := ptRs ys) [] (fun O hO => ⟨rfl, rfl⟩) hx hy trivial hb hd (by rw [ptRs_len]; exact hl) k
theorem byRs_cat {xs ys : List (UInt8)} : byRs xs ++ byRs ys = byRs (xs ++ ys) := by simp [byRs]
theorem al_pushB [hT : SlT P T e 1 bytes zs] {xs : List (UInt8)} {a : UInt8} (hx : AgL (lk .dead l) [(x, .raw (.int .u8 a.toNat))]) (hy : Ag (lk .dead ((d1, .own n) :: l)) y (.own u)) (ho : lk .gone ((n, .row 1 e [[.raw (.int .u8 a.toNat)]]) :: m) u = .row 1 e (byRs xs))
    (hb : Nat.ble bytes 1000 = true) (hd1 : Nat.blt d1 cx.N = true) (hd : Nat.blt d cx.N = true) (hl : xs.length ≤ 1000000000)
    (k : AL P ops cx Q rest ((d, .own (n + 1)) :: (d1, .own n) :: l) ((n + 1, .row 1 e (byRs (xs ++ [a]))) :: (u, .gone) :: (n, .row 1 e [[.raw (.int .u8 a.toNat)]]) :: m) (n + 1 + 1)) :
    AL P ops cx Q (⟨some d1, .buildSlice T 1 #[(0, x)], ty1, pos1, af1, none⟩ :: ⟨some d, .call { callee := .builtin .append, args := #[y, .tmp d1], argTypes := #[T, T] }, ty, pos, af, none⟩ :: rest) l m n :=
  al_push1 (by rw [← byRs_cat]; rfl) hx hy ho hb hd1 hd (by simpa [byRs] using hl) k
theorem lbRs_len {xs : List (Str × Str)} : (lbRs xs).length = xs.length := by simp [lbRs]
theorem lbRs_at {xs : List (Str × Str)} {k : Nat} {x : Str × Str} (h : xs[k]? = some x) : (lbRs xs)[k]? = some (lbR x) := by simp [lbRs, h]
theorem lbRs_cat {xs ys : List (Str × Str)} : lbRs xs ++ lbRs ys = lbRs (xs ++ ys) := by simp [lbRs]
theorem al_pushL [hT : SlT P T e 2 bytes zs] {xs : List (Str × Str)} {a b : Str} (hx : AgL (lk .dead l) [(x, .agg [.c (cS a), .c (cS b)])]) (hy : Ag (lk .dead ((d1, .own n) :: l)) y (.own u)) (ho : lk .gone ((n, .row 2 e [[cS a, cS b]]) :: m) u = .row 2 e (lbRs xs))
    (hb : Nat.ble bytes 1000 = true) (hd1 : Nat.blt d1 cx.N = true) (hd : Nat.blt d cx.N = true) (hl : xs.length ≤ 1000000000)
    (k : AL P ops cx Q rest ((d, .own (n + 1)) :: (d1, .own n) :: l) ((n + 1, .row 2 e (lbRs (xs ++ [(a, b)]))) :: (u, .gone) :: (n, .row 2 e [[cS a, cS b]]) :: m) (n + 1 + 1)) :
    AL P ops cx Q (⟨some d1, .buildSlice T 1 #[(0, x)], ty1, pos1, af1, none⟩ :: ⟨some d, .call { callee := .builtin .append, args := #[y, .tmp d1], argTypes := #[T, T] }, ty, pos, af, none⟩ :: rest) l m n :=
  al_push2 (by rw [← lbRs_cat]; rfl) hx hy ho hb hd1 hd (by simpa [lbRs] using hl) k
theorem ad_pushL {ol : List Oper} {done : List Keys} [hT : SlT P T e 2 bytes zs] {xs : List (Str × Str)} {a b : Str} (hx : AgL (lk .dead l) [(x, .agg [.c (cS a), .c (cS b)])]) (hy : Ag (lk .dead ((d1, .own n) :: l)) y (.own u)) (ho : lk .gone ((n, .row 2 e [[cS a, cS b]]) :: m) u = .row 2 e (lbRs xs))
    (hb : Nat.ble bytes 1000 = true) (hd1 : Nat.blt d1 cx.N = true) (hd : Nat.blt d cx.N = true) (hl : xs.length ≤ 1000000000)
    (k : AD P ol cx Q (⟨rtmps [(y, .own u), (.tmp d1, .own n)], [d], [u, n], [n + 1, u], [n + 1]⟩ :: ⟨rtmps [(x, .agg [.c (cS a), .c (cS b)])], [d1], [], [n], [n]⟩ :: done) rest ((d, .own (n + 1)) :: (d1, .own n) :: l) ((n + 1, .row 2 e (lbRs (xs ++ [(a, b)]))) :: (u, .gone) :: (n, .row 2 e [[cS a, cS b]]) :: m) (n + 1 + 1)) :
    AD P ol cx Q done (⟨some d1, .buildSlice T 1 #[(0, x)], ty1, pos1, af1, none⟩ :: ⟨some d, .call { callee := .builtin .append, args := #[y, .tmp d1], argTypes := #[T, T] }, ty, pos, af, none⟩ :: rest) l m n :=
  ad_push2 (by rw [← lbRs_cat]; rfl) hx hy ho hb hd1 hd (by simpa [lbRs] using hl) k
theorem al_appnLv [hT : SlT P T e 2 bytes zs] {ys : List (Str × Str)} (hx : Ag (lk .dead l) x (.sl 2 (lbRs ys))) (hy : Ag (lk .dead l) y (.raw (.slice none 0 0))) (hb : Nat.ble bytes 1000 = true) (hd : Nat.blt d cx.N = true) (hl : ys.length ≤ 1000000000)
    (k : AL P ops cx Q rest ((d, .own n) :: l) ((n, .row 2 e (lbRs ys)) :: m) (n + 1)) :
    AL P ops cx Q (⟨some d, .call { callee := .builtin .append, args := #[y, x], argTypes := #[T, T] }, ty, pos, af, none⟩ :: rest) l m n :=
  al_app0 (wd := 2) (av := .sl 2 (lbRs ys)) (news := lbRs ys) [] (fun O hO => ⟨rfl, rfl⟩) hx hy trivial hb hd (by rw [lbRs_len]; exact hl) k
theorem stRs_len {xs : List (Str)} : (stRs xs).length = xs.length := by simp [stRs]
theorem stRs_at {xs : List (Str)} {k : Nat} {x : Str} (h : xs[k]? = some x) : (stRs xs)[k]? = some (stR x) := by simp [stRs, h]
theorem stRs_cat {xs ys : List (Str)} : stRs xs ++ stRs ys = stRs (xs ++ ys) := by simp [stRs]
theorem stRs_hd {xs : List (Str)} {b : Nat} : ((stRs xs).take b).drop 0 = stRs (xs.take b) := by simp [stRs, List.map_take]
theorem stRs_set {xs : List (Str)} {k : Nat} {x : Str} : (stRs xs).set k (stR x) = stRs (xs.set k x) := by simp [stRs, List.map_set]
theorem al_pushS [hT : SlT P T e 1 bytes zs] {xs : List (Str)} {a : Str} (hx : AgL (lk .dead l) [(x, .str a)]) (hy : Ag (lk .dead ((d1, .own n) :: l)) y (.own u)) (ho : lk .gone ((n, .row 1 e [[cS a]]) :: m) u = .row 1 e (stRs xs))
    (hb : Nat.ble bytes 1000 = true) (hd1 : Nat.blt d1 cx.N = true) (hd : Nat.blt d cx.N = true) (hl : xs.length ≤ 1000000000)
    (k : AL P ops cx Q rest ((d, .own (n + 1)) :: (d1, .own n) :: l) ((n + 1, .row 1 e (stRs (xs ++ [a]))) :: (u, .gone) :: (n, .row 1 e [[cS a]]) :: m) (n + 1 + 1)) :
    AL P ops cx Q (⟨some d1, .buildSlice T 1 #[(0, x)], ty1, pos1, af1, none⟩ :: ⟨some d, .call { callee := .builtin .append, args := #[y, .tmp d1], argTypes := #[T, T] }, ty, pos, af, none⟩ :: rest) l m n :=
  al_push1 (by rw [← stRs_cat]; rfl) hx hy ho hb hd1 hd (by simpa [stRs] using hl) k
theorem al_appSv [hT : SlT P T e 1 bytes zs] {xs ys : List (Str)} (hx : Ag (lk .dead l) x (.sl 1 (stRs ys))) (hy : Ag (lk .dead l) y (.own u)) (ho : lk .gone m u = .row 1 e (stRs xs)) (hb : Nat.ble bytes 1000 = true) (hd : Nat.blt d cx.N = true) (hl : xs.length + ys.length ≤ 1000000000)
    (k : AL P ops cx Q rest ((d, .own n) :: l) ((n, .row 1 e (stRs (xs ++ ys))) :: (u, .gone) :: m) (n + 1)) :
    AL P ops cx Q (⟨some d, .call { callee := .builtin .append, args := #[y, x], argTypes := #[T, T] }, ty, pos, af, none⟩ :: rest) l m n :=
  al_app (wd := 1) (av := .sl 1 (stRs ys)) (rows := stRs xs) (news := stRs ys) [] (fun O hO => ⟨rfl, rfl⟩) stRs_cat hx hy ho trivial hb hd (by rw [stRs_len, stRs_len]; exact hl) k
theorem lcRs_len {xs : List (List (Str × Str))} : (lcRs xs).length = xs.length := by simp [lcRs]
theorem lcRs_at {xs : List (List (Str × Str))} {k : Nat} {x : List (Str × Str)} (h : xs[k]? = some x) : (lcRs xs)[k]? = some (lcR x) := by simp [lcRs, h]
theorem lcRs_cat {xs ys : List (List (Str × Str))} : lcRs xs ++ lcRs ys = lcRs (xs ++ ys) := by simp [lcRs]
theorem al_pushC [hT : SlT P T e 1 bytes zs] {xs : List (List (Str × Str))} {a : List (Str × Str)} (hx : AgL (lk .dead l) [(x, .sl 2 (lbRs a))]) (hy : Ag (lk .dead ((d1, .own n) :: l)) y (.own u)) (ho : lk .gone ((n, .row 1 e [[.sl 2 (lbRs a)]]) :: m) u = .row 1 e (lcRs xs))
    (hb : Nat.ble bytes 1000 = true) (hd1 : Nat.blt d1 cx.N = true) (hd : Nat.blt d cx.N = true) (hl : xs.length ≤ 1000000000)
    (k : AL P ops cx Q rest ((d, .own (n + 1)) :: (d1, .own n) :: l) ((n + 1, .row 1 e (lcRs (xs ++ [a]))) :: (u, .gone) :: (n, .row 1 e [[.sl 2 (lbRs a)]]) :: m) (n + 1 + 1)) :
    AL P ops cx Q (⟨some d1, .buildSlice T 1 #[(0, x)], ty1, pos1, af1, none⟩ :: ⟨some d, .call { callee := .builtin .append, args := #[y, .tmp d1], argTypes := #[T, T] }, ty, pos, af, none⟩ :: rest) l m n :=
  al_push1 (by rw [← lcRs_cat]; rfl) hx hy ho hb hd1 hd (by simpa [lcRs] using hl) k
theorem plRs_len {xs : List (List (Int × Int))} : (plRs xs).length = xs.length := by simp [plRs]
theorem plRs_at {xs : List (List (Int × Int))} {k : Nat} {x : List (Int × Int)} (h : xs[k]? = some x) : (plRs xs)[k]? = some (plR' x) := by simp [plRs, h]
theorem plRs_cat {xs ys : List (List (Int × Int))} : plRs xs ++ plRs ys = plRs (xs ++ ys) := by simp [plRs]
theorem plRs_set {xs : List (List (Int × Int))} {k : Nat} {x : List (Int × Int)} : (plRs xs).set k (plR' x) = plRs (xs.set k x) := by simp [plRs, List.map_set]
theorem al_pushQ [hT : SlT P T e 1 bytes zs] {xs : List (List (Int × Int))} {a : List (Int × Int)} (hx : AgL (lk .dead l) [(x, .sl 2 (ptRs a))]) (hy : Ag (lk .dead ((d1, .own n) :: l)) y (.own u)) (ho : lk .gone ((n, .row 1 e [[.sl 2 (ptRs a)]]) :: m) u = .row 1 e (plRs xs))
    (hb : Nat.ble bytes 1000 = true) (hd1 : Nat.blt d1 cx.N = true) (hd : Nat.blt d cx.N = true) (hl : xs.length ≤ 1000000000)
    (k : AL P ops cx Q rest ((d, .own (n + 1)) :: (d1, .own n) :: l) ((n + 1, .row 1 e (plRs (xs ++ [a]))) :: (u, .gone) :: (n, .row 1 e [[.sl 2 (ptRs a)]]) :: m) (n + 1 + 1)) :
    AL P ops cx Q (⟨some d1, .buildSlice T 1 #[(0, x)], ty1, pos1, af1, none⟩ :: ⟨some d, .call { callee := .builtin .append, args := #[y, .tmp d1], argTypes := #[T, T] }, ty, pos, af, none⟩ :: rest) l m n :=
  al_push1 (by rw [← plRs_cat]; rfl) hx hy ho hb hd1 hd (by simpa [plRs] using hl) k
theorem al_appQr [hT : SlT P T e 1 bytes zs] {xs ys : List (List (Int × Int))} {t : Nat} {e' : TypeId} (hx : Ag (lk .dead l) x (.own t)) (ht : lk .gone m t = .row 1 e' (plRs ys)) (hy : Ag (lk .dead l) y (.own u)) (ho : lk .gone m u = .row 1 e (plRs xs)) (hb : Nat.ble bytes 1000 = true) (hd : Nat.blt d cx.N = true) (hl : xs.length + ys.length ≤ 1000000000)
    (k : AL P ops cx Q rest ((d, .own n) :: l) ((n, .row 1 e (plRs (xs ++ ys))) :: (u, .gone) :: m) (n + 1)) :
    AL P ops cx Q (⟨some d, .call { callee := .builtin .append, args := #[y, x], argTypes := #[T, T] }, ty, pos, af, none⟩ :: rest) l m n :=
  al_app (wd := 1) (av := .own t) (rows := plRs xs) (news := plRs ys) [(t, .row 1 e' (plRs ys))] (fun O hO => (.inr ⟨e', hO.1⟩)) plRs_cat hx hy ho ⟨ht, trivial⟩ hb hd (by rw [plRs_len, plRs_len]; exact hl) k
theorem al_appePv [hT : SlT P T e 2 bytes zs] {ys : List (Int × Int)} (hx : Ag (lk .dead l) x (.sl 2 (ptRs ys))) (hy : Ag (lk .dead l) y (.own u)) (ho : lk .gone m u = .row 2 e []) (hb : Nat.ble bytes 1000 = true) (hd : Nat.blt d cx.N = true) (hl : ys.length ≤ 1000000000)
    (k : AL P ops cx Q rest ((d, .own n) :: l) ((n, .row 2 e (ptRs ys)) :: (u, .gone) :: m) (n + 1)) :
    AL P ops cx Q (⟨some d, .call { callee := .builtin .append, args := #[y, x], argTypes := #[T, T] }, ty, pos, af, none⟩ :: rest) l m n :=
  al_app (wd := 2) (av := .sl 2 (ptRs ys)) (rows := []) (news := ptRs ys) [] (fun O hO => ⟨rfl, rfl⟩) rfl hx hy ho trivial hb hd (by rw [ptRs_len]; simpa using hl) k
theorem al_appeLv [hT : SlT P T e 2 bytes zs] {ys : List (Str × Str)} (hx : Ag (lk .dead l) x (.sl 2 (lbRs ys))) (hy : Ag (lk .dead l) y (.own u)) (ho : lk .gone m u = .row 2 e []) (hb : Nat.ble bytes 1000 = true) (hd : Nat.blt d cx.N = true) (hl : ys.length ≤ 1000000000)
    (k : AL P ops cx Q rest ((d, .own n) :: l) ((n, .row 2 e (lbRs ys)) :: (u, .gone) :: m) (n + 1)) :
    AL P ops cx Q (⟨some d, .call { callee := .builtin .append, args := #[y, x], argTypes := #[T, T] }, ty, pos, af, none⟩ :: rest) l m n :=
  al_app (wd := 2) (av := .sl 2 (lbRs ys)) (rows := []) (news := lbRs ys) [] (fun O hO => ⟨rfl, rfl⟩) rfl hx hy ho trivial hb hd (by rw [lbRs_len]; simpa using hl) k
theorem al_appeSv [hT : SlT P T e 1 bytes zs] {ys : List (Str)} (hx : Ag (lk .dead l) x (.sl 1 (stRs ys))) (hy : Ag (lk .dead l) y (.own u)) (ho : lk .gone m u = .row 1 e []) (hb : Nat.ble bytes 1000 = true) (hd : Nat.blt d cx.N = true) (hl : ys.length ≤ 1000000000)
    (k : AL P ops cx Q rest ((d, .own n) :: l) ((n, .row 1 e (stRs ys)) :: (u, .gone) :: m) (n + 1)) :
    AL P ops cx Q (⟨some d, .call { callee := .builtin .append, args := #[y, x], argTypes := #[T, T] }, ty, pos, af, none⟩ :: rest) l m n :=
  al_app (wd := 1) (av := .sl 1 (stRs ys)) (rows := []) (news := stRs ys) [] (fun O hO => ⟨rfl, rfl⟩) rfl hx hy ho trivial hb hd (by rw [stRs_len]; simpa using hl) k
theorem al_stS {t : TypeId} [hT : TyOne P t] {xs : List (Str)} {i : Nat} {a : Str} {p : Str} (hx : Ag (lk .dead l) x (.el u 1 i 0)) (hy : Ag (lk .dead l) y (.str a)) (ho : lk .gone m u = .row 1 e (stRs xs)) (hi : xs[i]? = some p)
    (k : AL P ops cx Q rest l ((u, .row 1 e (stRs (xs.set i a))) :: m) n) : AL P ops cx Q (⟨none, .store t x y, ty, pos, af, none⟩ :: rest) l m n := by
  have e1 : (stRs xs).set i ((stR p).set 0 (cS a)) = stRs (xs.set i a) := stRs_set
  rw [← e1] at k
  exact al_s (opx_st1_el (rows := stRs xs) (row := stR p) (stRs_at hi) (by omega)) ⟨hx, hy, trivial⟩ ⟨ho, trivial⟩ k
theorem al_stQ {t : TypeId} [hT : TyOne P t] {xs : List (List (Int × Int))} {i : Nat} {a : List (Int × Int)} {p : List (Int × Int)} (hx : Ag (lk .dead l) x (.el u 1 i 0)) (hy : Ag (lk .dead l) y (.sl 2 (ptRs a))) (ho : lk .gone m u = .row 1 e (plRs xs)) (hi : xs[i]? = some p)
    (k : AL P ops cx Q rest l ((u, .row 1 e (plRs (xs.set i a))) :: m) n) : AL P ops cx Q (⟨none, .store t x y, ty, pos, af, none⟩ :: rest) l m n := by
  have e1 : (plRs xs).set i ((plR' p).set 0 (.sl 2 (ptRs a))) = plRs (xs.set i a) := plRs_set
  rw [← e1] at k
  exact al_s (opx_st1_el (rows := plRs xs) (row := plR' p) (plRs_at hi) (by omega)) ⟨hx, hy, trivial⟩ ⟨ho, trivial⟩ k
end
end Go.Proofs.YtfoecgfboicphaaGreatDoor
/-
  Calls of the reader's functions whose answers are values; ends.
-/
namespace Go.Proofs.YtfoecgfboicphaaGreatDoor
open Go.RowKit
set_option linter.unusedVariables false
set_option linter.unusedSimpArgs false
theorem eqD {α : Type} [DecidableEq α] (x : α) : decide (x = x) = true := by simp
/-- What a function of the reader answers: values. -/
abbrev RdG {γ : Type} (bs : List UInt8) (mk : γ → List AR) (Φ : γ → Int → Prop) (rs : List AR) (all : List OB) : Prop := ∃ (g : γ) (q : Int), rs = mk g ∧ all = [rdO bs q] ∧ noTags (mk g) = true ∧ Φ g q
section
variable {P : Program} {ops : Array Oper} {cx : Cx} {Q : APost} {rest : List Oper} {l : SL} {m : OL} {n d : Nat} {ty : TypeId} {pos : String} {af : Array Edge} {f : FuncId} {xs : List Operand} {ats : Array TypeId} {args : List AR}
theorem al_rdg {γ : Type} {bs : List UInt8} {p : Int} {mk : γ → List AR} {Φ : γ → Int → Prop} (t : Nat) (hm : lk .gone m t = rdO bs p) (ht : Nat.blt t n = true) (ha : Args (lk .dead l) (lk .gone m) (cpi [t] n) false xs args) (hd : Nat.blt d cx.N = true)
    (hc : Con P f args [rdO bs p] (RdG bs mk Φ)) (k : ∀ g q, Φ g q → AL P ops cx Q rest ((d, mkRes (mk g)) :: l) ((t, rdO bs q) :: m) n) :
    AL P ops cx Q (⟨some d, .call { callee := .value (.func f), args := xs.toArray, argTypes := ats }, ty, pos, af, none⟩ :: rest) l m n :=
  al_call_m [t] hc (by simp [nodupB, ht]) ⟨hm, trivial⟩ ha hd fun rs all _ ⟨g, q, h1, h2, h3, h4⟩ => by
    subst h1 h2
    rw [noTags_sub h3]
    exact k g q h4
end
end Go.Proofs.YtfoecgfboicphaaGreatDoor
/-
  Labels and their texts: the plain law.
-/
namespace Go.Proofs.YtfoecgfboicphaaGreatDoor
set_option linter.unusedVariables false
set_option linter.unusedSimpArgs false

abbrev Lb := Str × Str
/-- A word. -/
def lowB (c : UInt8) : Prop := 97 ≤ c.toNat ∧ c.toNat ≤ 122
instance (c : UInt8) : Decidable (lowB c) := by unfold lowB; infer_instance
def vw (s : Str) : Prop := 1 ≤ s.length ∧ s.length ≤ 4 ∧ ∀ c ∈ s, lowB c
instance (s : Str) : Decidable (vw s) := by unfold vw; infer_instance
/-- One label behind another. -/
def lbOk (l : List Lb) (k : Nat) : Prop := ∀ x, l[k]? = some x → vw x.1 ∧ vw x.2 ∧ ∀ y, 0 < k → l[k - 1]? = some y → sle x.1 y.1 = false
def VL (l : List Lb) : Prop := l.length ≤ 4 ∧ ∀ k, lbOk l k
open Classical in
noncomputable def vlB (l : List Lb) : Bool := decide (VL l)
open Classical in
theorem vlB_t {l : List Lb} (h : VL l) : vlB l = true := by unfold vlB; exact decide_eq_true h
open Classical in
theorem vlB_f {l : List Lb} (h : ¬ VL l) : vlB l = false := by unfold vlB; exact decide_eq_false h
open Classical in
theorem vlB_of {l : List Lb} (h : vlB l = true) : VL l := by unfold vlB at h; exact of_decide_eq_true h
open Classical in
theorem vlB_of_f {l : List Lb} (h : vlB l = false) : ¬ VL l := by unfold vlB at h; exact of_decide_eq_false h
theorem VL_mem {l : List Lb} (h : VL l) {x : Lb} (hx : x ∈ l) : vw x.1 ∧ vw x.2 := by
  obtain ⟨k, hk⟩ := List.mem_iff_getElem?.1 hx
  exact ⟨(h.2 k x hk).1, (h.2 k x hk).2.1⟩
theorem low_ne {c : UInt8} (h : lowB c) {d : UInt8} (hd : d.toNat < 97 ∨ 122 < d.toNat) : c ≠ d := by
  rintro rfl; unfold lowB at h; omega
theorem vw_not {s : Str} (h : vw s) {d : UInt8} (hd : d.toNat < 97 ∨ 122 < d.toNat) : d ∉ s := fun hm => low_ne (h.2.2 d hm) hd rfl

def jn (c : UInt8) : List Str → Str
  | [] => []
  | [x] => x
  | x :: y :: r => x ++ c :: jn c (y :: r)
theorem jn_cons {c : UInt8} {x : Str} {r : List Str} (h : r ≠ []) : jn c (x :: r) = x ++ c :: jn c r := by
  cases r with
  | nil => exact absurd rfl h
  | cons y r => rfl
def spl (c : UInt8) : Str → List Str
  | [] => [[]]
  | a :: r => if a = c then [] :: spl c r else match spl c r with
    | p :: ps => (a :: p) :: ps
    | [] => [[a]]
theorem spl_ne {c : UInt8} : ∀ {s : Str}, spl c s ≠ []
  | [] => by simp [spl]
  | a :: r => by
    simp only [spl]
    split
    · simp
    · split <;> simp
theorem spl_none {c : UInt8} : ∀ {s : Str}, c ∉ s → spl c s = [s]
  | [], _ => rfl
  | a :: r, h => by
    have h1 : a ≠ c := fun e => h (e ▸ .head _)
    have h2 := spl_none (c := c) (s := r) (fun hm => h (.tail _ hm))
    simp only [spl, if_neg h1, h2]
theorem spl_cut {c : UInt8} : ∀ {x r : Str}, c ∉ x → spl c (x ++ c :: r) = x :: spl c r
  | [], r, _ => by simp [spl]
  | a :: x, r, h => by
    have h1 : a ≠ c := fun e => h (e ▸ .head _)
    have h2 := spl_cut (c := c) (x := x) (r := r) (fun hm => h (.tail _ hm))
    simp only [List.cons_append, spl, if_neg h1, h2]
theorem cut_at {c : UInt8} : ∀ {s : Str}, c ∈ s → ∃ x r, s = x ++ c :: r ∧ c ∉ x
  | [], h => by cases h
  | a :: s, h => by
    by_cases e : a = c
    · exact ⟨[], s, by rw [e]; rfl, by simp⟩
    · have h1 : c ∈ s := by
        rcases List.mem_cons.1 h with h | h
        · exact absurd h.symm e
        · exact h
      obtain ⟨x, r, h2, h3⟩ := cut_at h1
      refine ⟨a :: x, r, by rw [h2]; rfl, fun hm => ?_⟩
      rcases List.mem_cons.1 hm with h | h
      · exact e h.symm
      · exact h3 h
theorem jn_spl {c : UInt8} : ∀ (n : Nat) {s : Str}, s.length ≤ n → jn c (spl c s) = s
  | n, s, hn => by
    by_cases h : c ∈ s
    · obtain ⟨x, r, rfl, hx⟩ := cut_at h
      rw [spl_cut hx, jn_cons spl_ne]
      cases n with
      | zero => simp at hn
      | succ n => rw [jn_spl n (by simp at hn; omega)]
    · rw [spl_none h]; rfl
theorem spl_jn {c : UInt8} : ∀ {l : List Str}, l ≠ [] → (∀ p ∈ l, c ∉ p) → spl c (jn c l) = l
  | [], h, _ => absurd rfl h
  | [x], _, h => spl_none (h x (.head _))
  | x :: y :: r, _, h => by
    rw [jn_cons (by simp), spl_cut (h x (.head _)), spl_jn (by simp) (fun p hp => h p (.tail _ hp))]
def eqt (x : Lb) : Str := x.1 ++ 61 :: x.2
def txt (l : List Lb) : Str := 123 :: (jn 44 (l.map eqt) ++ [125])
theorem eqt_comma {x : Lb} (h1 : vw x.1) (h2 : vw x.2) : (44 : UInt8) ∉ eqt x := by
  intro h
  rcases List.mem_append.1 h with h | h
  · exact vw_not h1 (by decide) h
  · rcases List.mem_cons.1 h with h | h
    · exact absurd h (by decide)
    · exact vw_not h2 (by decide) h
theorem spl_txt {l : List Lb} (h : VL l) (hn : l ≠ []) : spl 44 (jn 44 (l.map eqt)) = l.map eqt :=
  spl_jn (by simpa using hn) fun p hp => by
    obtain ⟨x, hx, rfl⟩ := List.mem_map.1 hp
    obtain ⟨h1, h2⟩ := VL_mem h hx
    exact eqt_comma h1 h2
theorem cut_eq {a b x y : Str} (ha : (61 : UInt8) ∉ a) (hx : (61 : UInt8) ∉ x) (h : a ++ 61 :: b = x ++ 61 :: y) : a = x ∧ b = y := by
  induction a generalizing x with
  | nil =>
    cases x with
    | nil => simp at h; exact ⟨rfl, h⟩
    | cons c x => simp at h; exact absurd (h.1 ▸ .head _) hx
  | cons c a ih =>
    cases x with
    | nil => simp at h; exact absurd (h.1 ▸ .head _) ha
    | cons d x =>
      simp at h
      obtain ⟨h1, h2⟩ := ih (fun hm => ha (.tail _ hm)) (fun hm => hx (.tail _ hm)) h.2
      exact ⟨by rw [h.1, h1], h2⟩
theorem eqts_inj : ∀ {l m : List Lb}, (∀ x ∈ l, (61 : UInt8) ∉ x.1) → (∀ x ∈ m, (61 : UInt8) ∉ x.1) → l.map eqt = m.map eqt → l = m
  | [], [], _, _, _ => rfl
  | [], _ :: _, _, _, h => by cases h
  | _ :: _, [], _, _, h => by cases h
  | x :: l, y :: m, h1, h2, h => by
    simp only [List.map_cons, List.cons.injEq] at h
    obtain ⟨h3, h4⟩ := cut_eq (h1 x (.head _)) (h2 y (.head _)) h.1
    rw [eqts_inj (fun z hz => h1 z (.tail _ hz)) (fun z hz => h2 z (.tail _ hz)) h.2]
    exact congrArg (· :: m) (Prod.ext h3 h4)
theorem VL_eq {l : List Lb} (h : VL l) : ∀ x ∈ l, (61 : UInt8) ∉ x.1 := fun x hx => vw_not (VL_mem h hx).1 (by decide)
/-- What lies between the braces. -/
def ins (s : Str) : Str := (s.take (s.length - 1)).drop 1
theorem ins_txt {l : List Lb} : ins (txt l) = jn 44 (l.map eqt) := by
  unfold ins txt
  rw [List.length_cons, List.length_append, List.length_singleton, Nat.add_sub_cancel, List.take_succ_cons, List.drop_succ_cons, List.drop_zero, List.take_left']
  rfl
/-- The labels with a text. -/
def IsT (s : Str) (l : List Lb) : Prop := VL l ∧ txt l = s
open Classical in
noncomputable def prsB (s : Str) : Bool := decide (∃ l, IsT s l)
open Classical in
noncomputable def prsL (s : Str) : List Lb := if h : ∃ l, IsT s l then Classical.choose h else []
theorem jn_eqt_nil {l : List Lb} (h : jn 44 (l.map eqt) = []) : l = [] := by
  match l with
  | [] => rfl
  | [x] => simp [jn, eqt] at h
  | x :: y :: r => simp [jn, eqt] at h
theorem IsT_inj {s : Str} {l m : List Lb} (h1 : IsT s l) (h2 : IsT s m) : l = m := by
  obtain ⟨a1, a2⟩ := h1
  obtain ⟨b1, b2⟩ := h2
  have e : jn 44 (l.map eqt) = jn 44 (m.map eqt) := by rw [← ins_txt, ← ins_txt, a2, b2]
  by_cases hl : l = []
  · subst hl
    exact (jn_eqt_nil (e.symm.trans rfl)).symm
  · by_cases hm : m = []
    · subst hm
      exact jn_eqt_nil (e.trans rfl)
    · have e2 := congrArg (spl 44) e
      rw [spl_txt a1 hl, spl_txt b1 hm] at e2
      exact eqts_inj (VL_eq a1) (VL_eq b1) e2
open Classical in
theorem prs_t {s : Str} {l : List Lb} (h : IsT s l) : prsB s = true ∧ prsL s = l := by
  have hx : ∃ l, IsT s l := ⟨l, h⟩
  refine ⟨by unfold prsB; exact decide_eq_true hx, ?_⟩
  unfold prsL
  rw [dif_pos hx]
  exact IsT_inj (Classical.choose_spec hx) h
open Classical in
theorem prs_f {s : Str} (h : ∀ l, ¬ IsT s l) : prsB s = false ∧ prsL s = [] := by
  have hx : ¬ ∃ l, IsT s l := fun ⟨l, hl⟩ => h l hl
  exact ⟨by unfold prsB; exact decide_eq_false hx, by unfold prsL; rw [dif_neg hx]⟩
open Classical in
theorem prs_of {s : Str} (h : prsB s = true) : IsT s (prsL s) := by
  have hx : ∃ l, IsT s l := by unfold prsB at h; exact of_decide_eq_true h
  unfold prsL
  rw [dif_pos hx]
  exact Classical.choose_spec hx
/-- The labels read from the parts: right if they are valid. -/
theorem IsT_mk {s : Str} {l : List Lb} (hs : s = 123 :: (ins s ++ [125])) (hi : ins s ≠ []) (hp : spl 44 (ins s) = l.map eqt) (hv : VL l) : IsT s l := by
  refine ⟨hv, ?_⟩
  have := jn_spl (c := 44) (ins s).length (s := ins s) (Nat.le_refl _)
  rw [hp] at this
  rw [txt, this, ← hs]
theorem IsT_parts {s : Str} {l : List Lb} (h : IsT s l) (hi : ins s ≠ []) : spl 44 (ins s) = l.map eqt ∧ VL l := by
  obtain ⟨h1, rfl⟩ := h
  rw [ins_txt] at hi ⊢
  refine ⟨spl_txt h1 ?_, h1⟩
  rintro rfl
  exact hi rfl
theorem IsT_shape {s : Str} {l : List Lb} (h : IsT s l) : s = 123 :: (ins s ++ [125]) := by
  obtain ⟨h1, rfl⟩ := h
  rw [ins_txt]; rfl
theorem IsT_nil : IsT [123, 125] [] := ⟨⟨Nat.zero_le _, fun k x hx => by simp at hx⟩, rfl⟩
end Go.Proofs.YtfoecgfboicphaaGreatDoor
/-
  From a contract over abstract states to a row of the given statements: the arguments as the record reads them.
-/
namespace Go.Proofs.YtfoecgfboicphaaGreatDoor
open Go.ChangeShapes Go.WideShapes Go.ChangeAt Go.RowKit
set_option linter.unusedVariables false
set_option linter.unusedSimpArgs false

section
variable {H : Type} {enc : TypeId × Value → H} {P : Program}
/-- The row's last step where blocks of the call's own may have been frozen: after the guide's text. -/
theorem post_below {f : Func} {s : ChangeSpec} {apart fresh handsOn again : Bool} {W W' : World} {args : Array Value} {v : Value} {ds gs : List (DataW H)} {before pa pv : List MemPlace}
    (hW : DataW.Whole enc P f.params.toList s.vars apart W args.toList ds gs before)
    (hres : ∀ (b : Nat) (sp : Nat → Bool) (hd : Bool), DataW.TrodAll enc P W' b sp hd f.resultTypes.toList (v.resultList f.resultTypes.size) (s.fn H (ds ++ gs)).results [])
    (hargs : ∀ sp : Nat → Bool, (∀ p ∈ before, sp p.block = true) → DataW.TrodAll enc P W' 0 sp true f.params.toList args.toList (s.fn H (ds ++ gs)).args pa)
    (hvars : ∀ sp : Nat → Bool, (∀ p ∈ before, sp p.block = true) → DataW.TrodVars enc P W' sp s.vars (s.fn H (ds ++ gs)).vars pv)
    (hps : before = pa ++ pv) (hb : Below W.heap.size W W')
    (hok : ∀ (j : Nat) (t : TypeId) (r : Value), f.resultTypes[j]? = some t → (v.resultList f.resultTypes.size)[j]? = some r → Value.okWide P W' .any 0 t r) :
    s.post enc P f apart fresh handsOn again W args v W' := by
  have hlt : ∀ p ∈ before, p.block < W.heap.size := fun p hp => hW.lt p hp
  have hold : ∀ p ∈ before, (fun b => decide (b < W.heap.size)) p.block = true := fun p hp => by simpa using hlt p hp
  refine ⟨ds, gs, before, [], pa, pv, hW, hres _ _ _, hargs _ hold, hvars _ hold, World.keptBut_mono (fun p hp => ⟨hp, ?_⟩) (hb.frame (· ∈ before)), fun _ => ?_⟩
  · rw [hps, List.mem_append] at hp
    exact Or.inr hp
  · obtain ⟨_, _, _, _, _, hz, hn⟩ := hW
    refine ⟨hok, _, _, ([] ++ pa) ++ pv, ⟨[] ++ pa, pv, trodAll_append (hargs _ (fun _ _ => rfl)) (hres _ _ _), hvars _ (fun _ _ => rfl), rfl, ?_, ?_⟩, ?_⟩
    · intro b off hp
      have hin : MemPlace.cell b off ∈ before := by rw [hps]; simpa using hp
      rw [hb.frozen (hlt _ hin)]
      exact hz b off hin
    · intro ha
      have := hn ha
      rw [hps] at this
      simpa using this
    · intro p hp _
      rw [hps]
      simpa using hp

/-- Everything that came in reads as it did. -/
theorem trodAll_stays (hl : laidOutB P = true) {W W' : World} {sp : Nat → Bool} : ∀ {ts : List TypeId} {vs : List Value} {ds : List (DataW H)} {ps : List MemPlace}, (∀ t ∈ ts, P.readableRec t = true ∧ t < P.types.size) →
    DataW.TrodAll enc P W 0 (fun _ => true) true ts vs ds ps → (∀ x ∈ ps, W.sameAt W' x) → (∀ x ∈ ps, sp x.block = true) → DataW.TrodAll enc P W' 0 sp true ts vs ds ps
  | [], [], [], ps, _, h, _, _ => h
  | t :: ts, v :: vs, d :: ds, ps, hr, h, h1, h2 => by
    obtain ⟨p, q, hp, hq, rfl⟩ := h
    refine ⟨p, q, WideElems.Trod_stays hl (hr t (.head _)).1 (hr t (.head _)).2 hp (fun x hx => h1 x (by simp [hx])) (fun x hx => h2 x (by simp [hx])), ?_, rfl⟩
    exact trodAll_stays hl (fun t ht => hr t (.tail _ ht)) hq (fun x hx => h1 x (by simp [hx])) (fun x hx => h2 x (by simp [hx]))
  | [], _ :: _, _, _, _, h, _, _ => by cases h
  | [], [], _ :: _, _, _, h, _, _ => by cases h
  | _ :: _, [], _, _, _, h, _, _ => by cases h
  | _ :: _, _ :: _, [], _, _, h, _, _ => by cases h

/-- every block that is there -/
def Zw (W : World) (g : Nat) : Prop := g < W.heap.size
theorem zw_of_cell {W : World} {a : Addr} {v : Value} (h : W.cell? a = some v) : Zw W a.block := by
  rcases Nat.lt_or_ge a.block W.heap.size with h1 | h1
  · exact h1
  · rw [World.cell?, Array.getElem?_eq_none h1] at h; cases h

end

/-- What a contract without objects says of a call. -/
theorem con_calls {P : Program} {f : FuncId} {args : List AR} {b : Value} (hc : Con P f args [] (fun rs all => rs = [.one (.c (.raw b))] ∧ all = [])) {w : World} {vs : List Value} (ρ : Nat → Value) (hd : DRL ρ (Zw w) w args vs) (hgl : Gl (Zw w) w := by intro q hq; exact absurd hq (by simp [globs])) :
    Calls P f vs.toArray w fun e w' => e = .returned b ∧ Below w.heap.size w w' := by
  refine (hc.run w ρ (Zw w) vs ⟨hd, fun i => trivial, fun i j g hi => (by cases hi), fun i g hi => (by cases hi), fun g hg => hg, hgl⟩).mono fun e w' ⟨rs, all, us, ρ', Z', ⟨h1, h2⟩, _, h3, h4⟩ => ?_
  subst h1 h2
  have hr := h4.res
  match us, hr with
  | [u], hr =>
    have hu : u = b := by
      have h5 : DC Z' w' (.raw b) u := hr.1
      cases h5; rfl
    subst hu
    exact ⟨h3, h4.os, h4.tape, h4.output, h4.size, fun k hk => h4.old k hk (by rintro ⟨i, hi, _⟩; cases hi)⟩
end Go.Proofs.YtfoecgfboicphaaGreatDoor
/-
  The arguments of the exact statements, as the record reads them: any plain type.
-/
namespace Go.Proofs.YtfoecgfboicphaaGreatDoor
open Go.ChangeShapes Go.WideShapes Go.ChangeAt Go.RowKit
set_option linter.unusedVariables false
set_option linter.unusedSimpArgs false
mutual
/-- Data of a type, as cells. -/
inductive Shp (P : Program) : TypeId → List CV → Prop where
  | int {t : TypeId} {k : IntKind} {n : Int} : P.underlying t = some (.int k) → (Lit.int k n).wf = true → Shp P t [.raw (.int k n)]
  | str {t : TypeId} {s : List UInt8} : P.underlying t = some .string → s.length ≤ maxLen → Shp P t [.raw (.string ⟨s.toArray⟩)]
  | slice {t e : TypeId} {rows : List (List CV)} : P.underlying t = some (.slice e) → (∀ r ∈ rows, Shp P e r) → rows.length ≤ maxLen → Shp P t [.sl (P.cellsOf e) rows]
  | struct {t : TypeId} {fs : Array Field} {cvs : List CV} : P.underlying t = some (.struct fs) → ShpL P fs.toList cvs → Shp P t cvs
inductive ShpL (P : Program) : List Field → List CV → Prop where
  | nil : ShpL P [] []
  | cons {f : Field} {fs : List Field} {xs ys : List CV} : Shp P f.type xs → ShpL P fs ys → ShpL P (f :: fs) (xs ++ ys)
end
def tiles (P : Program) : Nat → List Field → Option Nat
  | o, [] => some o
  | o, f :: fs => if f.offset = o then tiles P (o + P.cellsOf f.type) fs else none
def plainT (P : Program) : Nat → TypeId → Bool
  | 0, _ => false
  | d + 1, t => match P.underlying t with
    | some (.int _) => true
    | some .string => true
    | some (.slice e) => Nat.blt 0 (P.cellsOf e) && plainT P d e
    | some (.struct fs) => (tiles P 0 fs.toList == some (P.cellsOf t)) && fs.toList.all fun f => plainT P d f.type
    | _ => false
section
variable {H : Type} {enc : TypeId × Value → H} {P : Program} {W : World}
theorem fields_dl {cs : List Value} {m : Nat} (hm : cs.length = m) : ∀ {fs : List Field} {o : Nat}, tiles P o fs = some m → (∀ f ∈ fs, ∃ cvs, Shp P f.type cvs ∧ DL (Zw W) W cvs ((cs.drop f.offset).take (P.cellsOf f.type))) →
    ∃ cvs, ShpL P fs cvs ∧ DL (Zw W) W cvs (cs.drop o)
  | [], o, ht, _ => by
    simp only [tiles, Option.some.injEq] at ht
    subst ht hm
    exact ⟨[], .nil, by rw [List.drop_length]; trivial⟩
  | f :: fs, o, ht, h => by
    simp only [tiles] at ht
    split at ht
    · rename_i ho
      obtain ⟨xs, h1, h2⟩ := h f (.head _)
      obtain ⟨ys, h3, h4⟩ := fields_dl hm ht (fun g hg => h g (.tail _ hg))
      refine ⟨xs ++ ys, .cons h1 h3, ?_⟩
      have e : cs.drop o = (cs.drop f.offset).take (P.cellsOf f.type) ++ cs.drop (o + P.cellsOf f.type) := by
        rw [ho, ← List.drop_drop, List.take_append_drop]
      rw [e]
      exact h2.append h4
    · cases ht
theorem trod_dl : ∀ (d : Nat) (t : TypeId), plainT P d t = true → ∀ (fuel : Nat) (cs : List Value) (x : DataW H × List MemPlace), DataW.trod enc P W 0 (fun _ => true) true fuel t cs = some x → ∃ cvs, Shp P t cvs ∧ DL (Zw W) W cvs cs
  | 0, _, h, _, _, _, _ => by cases h
  | d + 1, t, hp, fuel, cs, x, h => by
    unfold plainT at hp
    split at hp
    · rename_i k hu
      obtain ⟨n, rfl, _, hw⟩ := DataW.trod_int hu h
      exact ⟨_, .int hu hw, .raw _ rfl, trivial⟩
    · rename_i hu
      obtain ⟨s, rfl, _, hs⟩ := DataW.trod_string hu h
      obtain ⟨⟨s⟩⟩ := s
      exact ⟨[.raw (.string ⟨⟨s⟩⟩)], .str (s := s) hu hs, .raw _ rfl, trivial⟩
    · rename_i e hu
      simp only [Bool.and_eq_true] at hp
      have hpos : 0 < P.cellsOf e := blt_lt hp.1
      rcases DataW.trod_slice hu h with ⟨rfl, _⟩ | ⟨a, len, cap, elems, rest, n, _, rfl, _, _, hl, hm, hlen, hel, _⟩
      · exact ⟨[.sl (P.cellsOf e) []], .slice hu (fun r hr => by cases hr) (Nat.zero_le _), .nil _ none 0 (Nat.zero_le _), trivial⟩
      · rcases Nat.eq_zero_or_pos len with h0 | h0
        · subst h0
          exact ⟨[.sl (P.cellsOf e) []], .slice hu (fun r hr => by cases hr) (Nat.zero_le _), .nil _ _ _ hm, trivial⟩
        have hspot : a.spot = none := by
          have h6 := hel 0 h0
          obtain ⟨y, hy⟩ : ∃ y, elems[0]? = some y := ⟨_, List.getElem?_eq_getElem (by omega)⟩
          rw [hy, Option.bind_eq_some_iff] at h6
          obtain ⟨cs', h7, h8⟩ := h6
          obtain ⟨_, h9, h10⟩ := World.cells?_some h7
          have h11 := h10 0 hpos
          rw [List.getElem?_eq_getElem (by omega)] at h11
          have h12 := World.cell?_spot h11
          simpa [Addr.add] using h12
        obtain ⟨ab, ao, spot⟩ := a
        simp only at hspot
        subst hspot
        have key : ∀ m, m ≤ len → ∃ (rows : List (List CV)) (us : List Value), rows.length = m ∧ (∀ r ∈ rows, r.length = P.cellsOf e ∧ Shp P e r) ∧ DL (Zw W) W rows.flatten us ∧ us.length = m * P.cellsOf e ∧ ∀ k u, us[k]? = some u → W.cell? ⟨ab, ao + k, none⟩ = some u := by
          intro m
          induction m with
          | zero => exact fun _ => ⟨[], [], rfl, fun r hr => (by cases hr), trivial, by simp, fun k u hk => (by simp at hk)⟩
          | succ m ih =>
            intro hml
            obtain ⟨rows, us, h1, h2, h3, h4, h5⟩ := ih (by omega)
            have h6 := hel m (by omega)
            obtain ⟨y, hy⟩ : ∃ y, elems[m]? = some y := ⟨_, List.getElem?_eq_getElem (by omega)⟩
            rw [hy, Option.bind_eq_some_iff, Addr.add_lit] at h6
            obtain ⟨cs', h7, h8⟩ := h6
            obtain ⟨_, h9, h10⟩ := World.cells?_some h7
            obtain ⟨r, h11, h12⟩ := trod_dl d e hp.2 n cs' y h8
            refine ⟨rows ++ [r], us ++ cs', by simp [h1], fun r' hr' => ?_, by rw [List.flatten_append]; exact h3.append (by simpa using h12), by rw [List.length_append, h4, h9, Nat.add_mul, Nat.one_mul], fun k u hk => ?_⟩
            · rcases List.mem_append.1 hr' with hr' | hr'
              · exact h2 r' hr'
              · rw [List.mem_singleton] at hr'; subst hr'; exact ⟨by rw [← h12.len, h9], h11⟩
            · rcases Nat.lt_or_ge k us.length with hk1 | hk1
              · rw [List.getElem?_append_left hk1] at hk; exact h5 k u hk
              · rw [List.getElem?_append_right hk1] at hk
                have hk2 := (List.getElem?_eq_some_iff.1 hk).1
                have h13 := h10 (k - us.length) (by omega)
                rw [hk, Addr.add_lit, show ao + m * P.cellsOf e + (k - us.length) = ao + k by omega] at h13
                exact h13
        obtain ⟨rows, us, h1, h2, h3, h4, h5⟩ := key len (Nat.le_refl _)
        refine ⟨[.sl (P.cellsOf e) rows], .slice hu (fun r hr => (h2 r hr).2) (by omega), ?_, trivial⟩
        have hus : 0 < us.length := by rw [h4]; exact Nat.mul_pos h0 hpos
        have hcc := h5 0 us[0] (List.getElem?_eq_getElem hus)
        exact .sl _ rows ab ao len cap us h1 (fun r hr => (h2 r hr).1) (zw_of_cell hcc) hl hm h3.len h5 (fun k hk hk' => h3.at k hk hk')
    · rename_i fs hu
      simp only [Bool.and_eq_true, beq_iff_eq, List.all_eq_true] at hp
      obtain ⟨xs, n, _, _, hcl, hxl, hf⟩ := DataW.trod_struct hu h
      obtain ⟨cvs, h1, h2⟩ := fields_dl (W := W) hcl hp.1 (fun f hfm => by
        obtain ⟨i, hi⟩ := List.getElem?_of_mem hfm
        have hi' : fs[i]? = some f := by simpa using hi
        have h3 := hf i f hi'
        obtain ⟨y, hy⟩ : ∃ y, xs[i]? = some y := ⟨_, List.getElem?_eq_getElem (by have := (Array.getElem?_eq_some_iff.1 hi').1; omega)⟩
        rw [hy] at h3
        exact trod_dl d f.type (hp.2 f hfm) n _ y h3)
      exact ⟨cvs, .struct hu h1, by simpa using h2⟩
    · cases hp
/-- A parameter of a type of one cell. -/
theorem open_one {d : Nat} {t : TypeId} (hp : plainT P d t = true) {v : Value} {dd : DataW H} {p : List MemPlace} (h1 : v.cells = #[v]) (h : DataW.Trod enc P W 0 (fun _ => true) true t v dd p) : ∃ c, Shp P t [c] ∧ DC (Zw W) W c v := by
  obtain ⟨fuel, hf⟩ := h
  obtain ⟨cvs, h2, h3⟩ := trod_dl d t hp fuel _ _ hf
  rw [h1] at h3
  match cvs, h3 with
  | [c], h3 => exact ⟨c, h2, h3.1⟩
  | [], h3 => exact h3.elim
  | _ :: _ :: _, h3 => exact h3.2.elim
theorem shp_u8 {t : TypeId} {cvs : List CV} (h : Shp P t cvs) (ht : P.underlying t = some (.int .u8)) : ∃ b : UInt8, cvs = byR b := by
  cases h with
  | @int t k n hu hw =>
    rw [ht] at hu; cases hu
    have hx : 0 ≤ n ∧ n ≤ 255 := by simpa [Lit.wf, IntKind.min, IntKind.max, IntKind.signed, IntKind.bits] using hw
    refine ⟨UInt8.ofNat n.toNat, ?_⟩
    simp only [byR, UInt8.toNat_ofNat']
    congr 3
    omega
  | str hu => rw [ht] at hu; cases hu
  | slice hu => rw [ht] at hu; cases hu
  | struct hu => rw [ht] at hu; cases hu
theorem shp_sl {t e : TypeId} {cvs : List CV} (h : Shp P t cvs) (ht : P.underlying t = some (.slice e)) : ∃ rows : List (List CV), cvs = [.sl (P.cellsOf e) rows] ∧ rows.length ≤ maxLen ∧ ∀ r ∈ rows, Shp P e r := by
  cases h with
  | int hu => rw [ht] at hu; cases hu
  | str hu => rw [ht] at hu; cases hu
  | slice hu h1 h2 => rw [ht] at hu; cases hu; exact ⟨_, rfl, h2, h1⟩
  | struct hu => rw [ht] at hu; cases hu
/-- Rows of a kind, as a list. -/
theorem rows_of {α : Type} {f : α → List CV} : ∀ {rows : List (List CV)}, (∀ r ∈ rows, ∃ a, r = f a) → ∃ xs : List α, rows = xs.map f
  | [], _ => ⟨[], rfl⟩
  | r :: rows, h => by
    obtain ⟨a, rfl⟩ := h r (.head _)
    obtain ⟨xs, rfl⟩ := rows_of (rows := rows) (fun r hr => h r (.tail _ hr))
    exact ⟨a :: xs, rfl⟩
end
end Go.Proofs.YtfoecgfboicphaaGreatDoor
