/-
  The data of the statements, as plain lists.
-/
import Derived.Test.YtllgddednlfhfaaDoorInst
namespace Go.Proofs.YtllgddednlfhfaaDoor
open Go.RowKit
set_option linter.unusedVariables false

abbrev cI (n : Int) : CV := .raw (.int .i64 n)
abbrev rI (n : Int) : AR := .one (.c (cI n))
abbrev rB (b : Bool) : AR := .one (.c (.raw (.bool b)))
abbrev rStr (s : List UInt8) : AR := .one (.c (.raw (.string ⟨s.toArray⟩)))
abbrev ptA (t v : Int) : AR := .agg [.c (cI t), .c (cI v)]

/-- Points, numbers and bytes as rows of cells. -/
abbrev ptR (p : Int × Int) : List CV := [cI p.1, cI p.2]
abbrev inR (n : Int) : List CV := [cI n]
def ptRs (ps : List (Int × Int)) : List (List CV) := ps.map ptR
def inRs (ns : List Int) : List (List CV) := ns.map inR
def byR (b : UInt8) : List CV := [.raw (.int .u8 b.toNat)]
def byRs (bs : List UInt8) : List (List CV) := bs.map byR
abbrev slP (ps : List (Int × Int)) : AR := .one (.c (.sl 2 (ptRs ps)))
abbrev slI (ns : List Int) : AR := .one (.c (.sl 1 (inRs ns)))
abbrev slB (bs : List UInt8) : AR := .one (.c (.sl 1 (byRs bs)))

theorem ptRs_len {ps : List (Int × Int)} : (ptRs ps).length = ps.length := by simp [ptRs]
theorem inRs_len {ns : List Int} : (inRs ns).length = ns.length := by simp [inRs]
theorem byRs_len {bs : List UInt8} : (byRs bs).length = bs.length := by simp [byRs]
theorem ptRs_at {ps : List (Int × Int)} {k : Nat} {p : Int × Int} (h : ps[k]? = some p) : (ptRs ps)[k]? = some (ptR p) := by simp [ptRs, h]
theorem inRs_at {ns : List Int} {k : Nat} {n : Int} (h : ns[k]? = some n) : (inRs ns)[k]? = some (inR n) := by simp [inRs, h]
theorem byRs_at {bs : List UInt8} {k : Nat} {b : UInt8} (h : bs[k]? = some b) : (byRs bs)[k]? = some (byR b) := by simp [byRs, h]
theorem byRs_take {bs : List UInt8} {k : Nat} : ((byRs bs).take k).drop 0 = byRs (bs.take k) := by simp [byRs, List.map_take]
theorem ptRs_app {ps : List (Int × Int)} {p : Int × Int} : ptRs ps ++ [ptR p] = ptRs (ps ++ [p]) := by simp [ptRs]
theorem inRs_app {ns : List Int} {n : Int} : inRs ns ++ [inR n] = inRs (ns ++ [n]) := by simp [inRs]
theorem ptRs_flat {ps : List (Int × Int)} : flatRows (ptRs ps) := by
  intro r hr c hc
  obtain ⟨p, _, rfl⟩ := List.mem_map.1 hr
  simp at hc
  rcases hc with rfl | rfl <;> rfl
theorem inRs_flat {ns : List Int} : flatRows (inRs ns) := by
  intro r hr c hc
  obtain ⟨p, _, rfl⟩ := List.mem_map.1 hr
  simp at hc
  subst hc; rfl
theorem byRs_flat {bs : List UInt8} : flatRows (byRs bs) := by
  intro r hr c hc
  obtain ⟨p, _, rfl⟩ := List.mem_map.1 hr
  simp [byR] at hc
  subst hc; rfl

theorem all_snoc {α : Type} {p : α → Prop} {xs : List α} {x : α} (h : ∀ y ∈ xs, p y) (hx : p x) : ∀ y ∈ xs ++ [x], p y := fun y hy => (List.mem_append.1 hy).elim (h y) fun h1 => by rw [List.mem_singleton.1 h1]; exact hx
/-! ### series -/
def okPt (p : Int × Int) : Prop := 0 ≤ p.1 ∧ p.1 ≤ 1000 ∧ -1000 ≤ p.2 ∧ p.2 ≤ 1000
def okAt (ps : List (Int × Int)) (k : Nat) : Prop := ∀ p, ps[k]? = some p → okPt p ∧ (k = 0 ∨ ∀ q, ps[k - 1]? = some q → q.1 < p.1)
def VS (ps : List (Int × Int)) : Prop := ps.length ≤ 16 ∧ ∀ k, okAt ps k
open Classical in
noncomputable def vsB (ps : List (Int × Int)) : Bool := decide (VS ps)
theorem vsB_t {ps : List (Int × Int)} (h : VS ps) : vsB ps = true := by simp [vsB, h]
theorem vsB_f {ps : List (Int × Int)} (h : ¬ VS ps) : vsB ps = false := by simp [vsB, h]
theorem vsB_iff {ps : List (Int × Int)} : vsB ps = true ↔ VS ps := by simp [vsB]
theorem vsB_bad {ps : List (Int × Int)} {k : Nat} {p : Int × Int} (hp : ps[k]? = some p) (h : ¬ okPt p) : vsB ps = false := vsB_f fun hv => h (hv.2 k p hp).1
theorem vsB_ord {ps : List (Int × Int)} {k : Nat} {p q : Int × Int} (hp : ps[k + 1]? = some p) (hq : ps[k]? = some q) (h : p.1 ≤ q.1) : vsB ps = false := vsB_f fun hv => by
  rcases (hv.2 (k + 1) p hp).2 with h1 | h1
  · omega
  · have := h1 q hq; omega
theorem vsB_long {ps : List (Int × Int)} (h : 16 < ps.length) : vsB ps = false := vsB_f fun hv => by have := hv.1; omega
theorem okAt_0 {ps : List (Int × Int)} {p : Int × Int} (hp : ps[0]? = some p) (h : okPt p) : okAt ps 0 := fun p' h' => by rw [hp] at h'; cases h'; exact ⟨h, .inl rfl⟩
theorem okAt_s {ps : List (Int × Int)} {k : Nat} {p q : Int × Int} (hp : ps[k + 1]? = some p) (hq : ps[k]? = some q) (h : okPt p) (h2 : q.1 < p.1) : okAt ps (k + 1) := fun p' h' => by
  rw [hp] at h'; cases h'
  refine ⟨h, .inr fun q' hq' => ?_⟩
  rw [show k + 1 - 1 = k from rfl, hq] at hq'; cases hq'; exact h2
theorem VS_of {ps : List (Int × Int)} (h : ps.length ≤ 16) (h2 : ∀ k, k < ps.length → okAt ps k) : vsB ps = true := vsB_t ⟨h, fun k p hp => by
  rcases Nat.lt_or_ge k ps.length with h3 | h3
  · exact h2 k h3 p hp
  · rw [List.getElem?_eq_none h3] at hp; cases hp⟩

/-! ### numbers -/
theorem xor_nn {a b : Int} (h1 : 0 ≤ a) (h2 : a < 4611686018427387904) (h3 : 0 ≤ b) (h4 : b < 4611686018427387904) : 0 ≤ bits .xor .i64 a b := by
  obtain ⟨A, rfl⟩ := Int.eq_ofNat_of_zero_le h1
  obtain ⟨B, rfl⟩ := Int.eq_ofNat_of_zero_le h3
  have hx : A ^^^ B < 2 ^ 62 := Nat.xor_lt_two_pow (by omega) (by omega)
  show 0 ≤ IntKind.i64.wrap ((BitVec.ofInt 64 (A : Int) ^^^ BitVec.ofInt 64 (B : Int)).toNat : Int)
  have e1 : (BitVec.ofInt 64 (A : Int)).toNat = A := by rw [BitVec.toNat_ofInt]; omega
  have e2 : (BitVec.ofInt 64 (B : Int)).toNat = B := by rw [BitVec.toNat_ofInt]; omega
  rw [BitVec.toNat_xor, e1, e2, wrap_in ⟨by omega, by omega⟩]
  omega
theorem wrap_u8 (b : UInt8) : IntKind.i64.wrap (b.toNat : Int) = (b.toNat : Int) := by
  have := b.toNat_lt
  exact wrap_in ⟨by omega, by omega⟩
theorem al_xor {P : Program} {ops : Array Oper} {cx : Cx} {Q : APost} {rest : List Oper} {l : SL} {mm : OL} {nn d : Nat} {t t' : TypeId} {x y : Operand} {ty : TypeId} {pos : String} {af : Array Edge} {m n : Int}
    (hR : AgL (lk .dead l) [(x, .i m), (y, .i n)]) (h1 : 0 ≤ m ∧ m < 4611686018427387904) (h2 : 0 ≤ n ∧ n < 4611686018427387904) (hd : Nat.blt d cx.N = true)
    (k : ∀ z : Int, 0 ≤ z → AL P ops cx Q rest ((d, .i z) :: l) mm nn) : AL P ops cx Q (⟨some d, .binOp .xor t x y t', ty, pos, af, none⟩ :: rest) l mm nn :=
  al_v (opx_bits (.inl rfl)) hR trivial hd (k _ (xor_nn h1.1 h1.2 h2.1 h2.2))

/-! ### the reader -/
abbrev rdO (bs : List UInt8) (p : Int) : OB := .box 74 [.c (.sl 1 (byRs bs)), .c (cI p)]
abbrev rdA : AR := .one (.ref 0 0)

/-- What a function of the reader answers: a number; a slice. -/
abbrev RdV (bs : List UInt8) (Φ : Int → Int → Prop) (rs : List AR) (all : List OB) : Prop := ∃ r q : Int, rs = [rI r] ∧ all = [rdO bs q] ∧ Φ r q
abbrev RdR (bs : List UInt8) (wd : Nat) (e : TypeId) (Φ : List (List CV) → Int → Prop) (rs : List AR) (all : List OB) : Prop :=
  ∃ (rows : List (List CV)) (q : Int), rs = [.one (.own 1)] ∧ all = [rdO bs q, .row wd e rows] ∧ Φ rows q

/-! ### lists of numbers that are drawn from -/
section
variable {P : Program} {ops : Array Oper} {cx : Cx} {Q : APost} {rest : List Oper} {l : SL} {m : OL} {n d : Nat} {ty : TypeId} {pos : String} {af : Array Edge} {f : FuncId} {xs : List Operand} {ats : Array TypeId} {args : List AR}
theorem al_newrd (ha : Args (lk .dead l) (lk .gone m) (cpi [] n) false xs args) (hd : Nat.blt d cx.N = true) (hc : Con P f args [] (fun rs all => ∃ bs : List UInt8, rs = [rdA] ∧ all = [rdO bs 0] ∧ bs.length ≤ 1048576))
    (k : ∀ bs : List UInt8, bs.length ≤ 1048576 → AL P ops cx Q rest ((d, .ref n 0) :: l) ((n, rdO bs 0) :: m) (n + 1)) :
    AL P ops cx Q (⟨some d, .call { callee := .value (.func f), args := xs.toArray, argTypes := ats }, ty, pos, af, none⟩ :: rest) l m n :=
  al_call hc ha hd fun rs all ⟨bs, h1, h2, h3⟩ => by
    subst h1 h2
    exact k bs h3
theorem cpi_one {t n : Nat} : cpi [t] n 0 = t := rfl
theorem cpi_one2 {t n : Nat} : cpi [t] n 1 = n := by simp [cpi]
theorem al_rdv {bs : List UInt8} {p : Int} {Φ : Int → Int → Prop} (t : Nat) (hm : lk .gone m t = rdO bs p) (ht : Nat.blt t n = true) (ha : Args (lk .dead l) (lk .gone m) (cpi [t] n) false xs args) (hd : Nat.blt d cx.N = true)
    (hc : Con P f args [rdO bs p] (RdV bs Φ)) (k : ∀ r q, Φ r q → AL P ops cx Q rest ((d, .i r) :: l) ((t, rdO bs q) :: m) n) :
    AL P ops cx Q (⟨some d, .call { callee := .value (.func f), args := xs.toArray, argTypes := ats }, ty, pos, af, none⟩ :: rest) l m n :=
  al_call_m [t] hc (by simp [nodupB, ht]) ⟨hm, trivial⟩ ha hd fun rs all _ ⟨r, q, h1, h2, h3⟩ => by
    subst h1 h2
    exact k r q h3
theorem al_rdr {bs : List UInt8} {p : Int} {wd : Nat} {e : TypeId} {Φ : List (List CV) → Int → Prop} (t : Nat) (hm : lk .gone m t = rdO bs p) (ht : Nat.blt t n = true) (ha : Args (lk .dead l) (lk .gone m) (cpi [t] n) false xs args) (hd : Nat.blt d cx.N = true)
    (hc : Con P f args [rdO bs p] (RdR bs wd e Φ)) (k : ∀ rows q, Φ rows q → AL P ops cx Q rest ((d, .own n) :: l) ((t, rdO bs q) :: (n, .row wd e rows) :: m) (n + 1)) :
    AL P ops cx Q (⟨some d, .call { callee := .value (.func f), args := xs.toArray, argTypes := ats }, ty, pos, af, none⟩ :: rest) l m n :=
  al_call_m [t] hc (by simp [nodupB, ht]) ⟨hm, trivial⟩ ha hd fun rs all _ ⟨rows, q, h1, h2, h3⟩ => by
    subst h1 h2
    have := k rows q h3
    have e1 : (n + ([rdO bs q, OB.row wd e rows].length - [rdO bs p].length)) = n + 1 := rfl
    rw [e1]
    simp only [List.map_cons, List.map_nil, mkRes, obLM, AR.sub, A1.sub, cpi_one, cpi_one2, OB.sub, List.cons_append, List.nil_append]
    exact this
end
section
variable {P : Program} {ops : Array Oper} {cx : Cx} {Q : APost} {rest : List Oper} {l : SL} {m : OL} {n d : Nat} {t t' : TypeId} {x y : Operand} {ty : TypeId} {pos : String} {af : Array Edge}
theorem al_litI {T e bytes cnt : Nat} {zs : List Value} [hT : SlT P T e 1 bytes zs] (ns : List Int) {ps : List (Nat × Operand)} (h : P1 (lk .dead l) 0 ps (ns.map cI)) (hn : ns.length = cnt) (hb : Nat.ble cnt 16777216 = true) (hd : Nat.blt d cx.N = true)
    (k : AL P ops cx Q rest ((d, .sl 1 (inRs ns)) :: (d, .own n) :: l) ((n, .froz 1 (inRs ns)) :: (n, .row 1 e (inRs ns)) :: m) (n + 1)) :
    AL P ops cx Q (⟨some d, .buildSlice T cnt ps.toArray, ty, pos, af, none⟩ :: rest) l m n := by
  have e1 : (ns.map cI).map (fun c => [c]) = inRs ns := by simp [inRs]
  have hx := opx_lit1 (hT := hT) (d := d) (ty := ty) (pos := pos) (af := af) (gd := none) (u := n) h (by simpa using hn) hb
  rw [e1] at hx
  refine al_n hx h.ag trivial hd ?_
  refine al_le (le_freeze n (wd := 1) (e := e) (rows := inRs ns) (by simp [lk])) ?_
  exact al_le (le_frozSl d (t := n) (wd := 1) (rows := inRs ns) (by simp [lk]) (by simp [lk])) k
theorem al_iaI {T e bytes : Nat} {zs : List Value} [hT : SlT P T e 1 bytes zs] {ns : List Int} {i : Int} (hR : AgL (lk .dead l) [(x, .sl 1 (inRs ns)), (y, .i i)]) (h : 0 ≤ i ∧ i < ns.length) (hd : Nat.blt d cx.N = true)
    (k : ∀ v, v ∈ ns → AL P ops cx Q rest ((d, .imm (inR v)) :: l) m n) : AL P ops cx Q (⟨some d, .indexAddr T x y, ty, pos, af, none⟩ :: rest) l m n := by
  have hlt : i.toNat < ns.length := by omega
  exact al_v (opx_ia_sl2 (k := i.toNat) (inRs_at (List.getElem?_eq_getElem hlt)) (by omega)) hR trivial hd (k _ (List.getElem_mem hlt))
end

/-! ### 'append(s, x)' -/
section
variable {P : Program} {ops : Array Oper} {cx : Cx} {Q : APost} {rest : List Oper} {l : SL} {m : OL} {n d d1 u : Nat} {x y : Operand} {ty ty1 : TypeId} {pos pos1 : String} {af af1 : Array Edge} {T e bytes : Nat} {zs : List Value}
theorem al_pushP [hT : SlT P T e 2 bytes zs] {ps : List (Int × Int)} {a b : Int} (hx : AgL (lk .dead l) [(x, .agg [.c (cI a), .c (cI b)])]) (hy : Ag (lk .dead ((d1, .own n) :: l)) y (.own u)) (ho : lk .gone ((n, .row 2 e [ptR (a, b)]) :: m) u = .row 2 e (ptRs ps))
    (hb : Nat.ble bytes 1000 = true) (hd1 : Nat.blt d1 cx.N = true) (hd : Nat.blt d cx.N = true) (hl : ps.length ≤ 1000000000)
    (k : AL P ops cx Q rest ((d, .own (n + 1)) :: (d1, .own n) :: l) ((n + 1, .row 2 e (ptRs (ps ++ [(a, b)]))) :: (u, .gone) :: (n, .row 2 e [ptR (a, b)]) :: m) (n + 1 + 1)) :
    AL P ops cx Q (⟨some d1, .buildSlice T 1 #[(0, x)], ty1, pos1, af1, none⟩ :: ⟨some d, .call { callee := .builtin .append, args := #[y, .tmp d1], argTypes := #[T, T] }, ty, pos, af, none⟩ :: rest) l m n := by
  have hbytes : (ps.length + 1) * bytes ≤ 140737488355328 := Nat.le_trans (Nat.mul_le_mul_left _ (Nat.le_of_ble_eq_true hb)) (by omega)
  refine al_n (opx_lits2 (hT := hT) (a := cI a) (b := cI b)) hx trivial hd1 ?_
  rw [← ptRs_app] at k
  refine al_n (opx_append (hT := hT) (u := u) (n := n + 1) [(n, .row 2 e [ptR (a, b)])] (rows := ptRs ps) (news := [ptR (a, b)]) (av := .own n) (fun O hO => .inr ⟨e, hO.1⟩) (by rw [ptRs_len]; simp [maxLen]; omega) (by rw [ptRs_len]; exact hbytes)) ⟨hy, by simp [Ag, vl, lk], trivial⟩ ⟨ho, by simp [lk], trivial⟩ hd ?_
  exact k
theorem al_pushI [hT : SlT P T e 1 bytes zs] {ps : List Int} {a : Int} (hx : AgL (lk .dead l) [(x, .i a)]) (hy : Ag (lk .dead ((d1, .own n) :: l)) y (.own u)) (ho : lk .gone ((n, .row 1 e [inR a]) :: m) u = .row 1 e (inRs ps))
    (hb : Nat.ble bytes 1000 = true) (hd1 : Nat.blt d1 cx.N = true) (hd : Nat.blt d cx.N = true) (hl : ps.length ≤ 1000000000)
    (k : AL P ops cx Q rest ((d, .own (n + 1)) :: (d1, .own n) :: l) ((n + 1, .row 1 e (inRs (ps ++ [a]))) :: (u, .gone) :: (n, .row 1 e [inR a]) :: m) (n + 1 + 1)) :
    AL P ops cx Q (⟨some d1, .buildSlice T 1 #[(0, x)], ty1, pos1, af1, none⟩ :: ⟨some d, .call { callee := .builtin .append, args := #[y, .tmp d1], argTypes := #[T, T] }, ty, pos, af, none⟩ :: rest) l m n := by
  have hbytes : (ps.length + 1) * bytes ≤ 140737488355328 := Nat.le_trans (Nat.mul_le_mul_left _ (Nat.le_of_ble_eq_true hb)) (by omega)
  refine al_n (opx_lit1 (hT := hT) (S := lk .dead l) (ps := [(0, x)]) (cs := [cI a]) (.cons hx.1 (.nil _)) rfl rfl) hx trivial hd1 ?_
  rw [← inRs_app] at k
  refine al_n (opx_append (hT := hT) (u := u) (n := n + 1) [(n, .row 1 e [inR a])] (rows := inRs ps) (news := [inR a]) (av := .own n) (fun O hO => .inr ⟨e, hO.1⟩) (by rw [inRs_len]; simp [maxLen]; omega) (by rw [inRs_len]; exact hbytes)) ⟨hy, by simp [Ag, vl, lk], trivial⟩ ⟨ho, by simp [lk], trivial⟩ hd ?_
  exact k

/-- in a drawn region -/
theorem ad_pushP {ol : List Oper} {done : List Keys} [hT : SlT P T e 2 bytes zs] {ps : List (Int × Int)} {a b : Int} (hx : AgL (lk .dead l) [(x, .agg [.c (cI a), .c (cI b)])]) (hy : Ag (lk .dead ((d1, .own n) :: l)) y (.own u)) (ho : lk .gone ((n, .row 2 e [ptR (a, b)]) :: m) u = .row 2 e (ptRs ps))
    (hb : Nat.ble bytes 1000 = true) (hd1 : Nat.blt d1 cx.N = true) (hd : Nat.blt d cx.N = true) (hl : ps.length ≤ 1000000000)
    (k : AD P ol cx Q (⟨rtmps [(y, .own u), (.tmp d1, .own n)], [d], [u, n], [n + 1, u], [n + 1]⟩ :: ⟨rtmps [(x, .agg [.c (cI a), .c (cI b)])], [d1], [], [n], [n]⟩ :: done) rest ((d, .own (n + 1)) :: (d1, .own n) :: l) ((n + 1, .row 2 e (ptRs (ps ++ [(a, b)]))) :: (u, .gone) :: (n, .row 2 e [ptR (a, b)]) :: m) (n + 1 + 1)) :
    AD P ol cx Q done (⟨some d1, .buildSlice T 1 #[(0, x)], ty1, pos1, af1, none⟩ :: ⟨some d, .call { callee := .builtin .append, args := #[y, .tmp d1], argTypes := #[T, T] }, ty, pos, af, none⟩ :: rest) l m n := by
  have hbytes : (ps.length + 1) * bytes ≤ 140737488355328 := Nat.le_trans (Nat.mul_le_mul_left _ (Nat.le_of_ble_eq_true hb)) (by omega)
  refine ad_n (opx_lits2 (hT := hT) (a := cI a) (b := cI b)) hx trivial hd1 ?_
  rw [← ptRs_app] at k
  refine ad_n (opx_append (hT := hT) (u := u) (n := n + 1) [(n, .row 2 e [ptR (a, b)])] (rows := ptRs ps) (news := [ptR (a, b)]) (av := .own n) (fun O hO => .inr ⟨e, hO.1⟩) (by rw [ptRs_len]; simp [maxLen]; omega) (by rw [ptRs_len]; exact hbytes)) ⟨hy, by simp [Ag, vl, lk], trivial⟩ ⟨ho, by simp [lk], trivial⟩ hd ?_
  exact k
end
end Go.Proofs.YtllgddednlfhfaaDoor
