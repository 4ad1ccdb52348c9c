/-
  What each operation does to an abstract state.
-/
import Derived.Test.YtllgddednlfhfaaDoorEng2
namespace Go.Proofs.YtllgddednlfhfaaDoor
open Go.RowKit
set_option linter.unusedVariables false

def AgL (S : Nat → AV) : List (Operand × AV) → Prop
  | [] => True
  | (x, v) :: r => Ag S x v ∧ AgL S r
def OgL (O : Nat → OB) : List (Nat × OB) → Prop
  | [] => True
  | (t, v) :: r => O t = v ∧ OgL O r
def VgL (V : Nat → Prop) : List Nat → Prop
  | [] => True
  | t :: r => V t ∧ VgL V r
def UgL (N : Nat) : List (Nat × AV) → Prop
  | [] => True
  | (d, _) :: r => Nat.blt d N = true ∧ UgL N r

/-- The operation, carried out in a state in which 'R' and 'RO' are read, leaves U in slots, UO in objects; 'NT': tags that it takes. -/
def OpX (P : Program) (o : Oper) (R : List (Operand × AV)) (RO : List (Nat × OB)) (NT : List Nat) (U : List (Nat × AV)) (UO : List (Nat × OB)) : Prop :=
  ∀ (cx : Cx) (S : Nat → AV) (O : Nat → OB) (V : Nat → Prop) (a : Act) (w : World), AgL S R → OgL O RO → VgL V NT → UgL cx.N U → Inv cx S O V a w →
    ∀ (K : Act → World → Prop) (Q : Exit → Act → World → Prop), (∀ a' w', Inv cx (lkf S U) (lkf O UO) (fun t => V t ∧ t ∉ NT) a' w' → K a' w') → o.wp P a w K Q

theorem Good.weak {cx : Cx} {S : Nat → AV} {O : Nat → OB} {V V' : Nat → Prop} {a : Act} {w : World} {ρ : Nat → Value} {Z : Nat → Prop}
    (h : Good cx S O V a w ρ Z) (hv : ∀ t, V' t → V t) : Good cx S O V' a w ρ Z :=
  ⟨h.size, h.defers, h.slot, h.obj, h.sep, h.out, h.zlt, fun t ht => h.virgin t (hv t ht), h.os, h.tape, h.output, h.big, h.old, h.pin, fun t ht => h.vlo t (hv t ht), h.zin, h.zout⟩

theorem blt_lt {d n : Nat} (h : Nat.blt d n = true) : d < n := by
  have : d + 1 ≤ n := by simpa [Nat.blt] using h
  omega

section
variable {P : Program} {R : List (Operand × AV)} {RO : List (Nat × OB)}

theorem opx_val {o : Oper} {d : Nat} (hd : o.dst = some d) {x : AV}
    (H : ∀ (cx : Cx) (S : Nat → AV) (O : Nat → OB) (V : Nat → Prop) (a : Act) (w : World) (ρ : Nat → Value) (Z : Nat → Prop), Good cx S O V a w ρ Z → AgL S R → OgL O RO →
      ∃ v, (execOp a.eval o).run P w = .ok (.value v) w ∧ DA ρ Z w x v ∧ ∀ t ∈ x.tags, ¬ V t) : OpX P o R RO [] [(d, x)] [] := by
  intro cx S O V a w hR hO _ hU ⟨ρ, Z, hg⟩ K Q hK
  obtain ⟨v, hrun, hx, hv⟩ := H cx S O V a w ρ Z hg hR hO
  unfold Oper.wp
  rw [hrun]
  show K (a.put o.dst v) w
  rw [hd]
  exact hK _ _ ⟨ρ, Z, (hg.put (blt_lt hU.1) hx hv).weak fun t ht => ht.1⟩

/-- A new block, its address (or slice) in slot d. -/
theorem opx_new {o : Oper} {d t : Nat} (hd : o.dst = some d) {x : A1} {ob : OB} (hx : x = .own t ∨ x = .ref t 0)
    (H : ∀ (cx : Cx) (S : Nat → AV) (O : Nat → OB) (V : Nat → Prop) (a : Act) (w : World) (ρ : Nat → Value) (Z : Nat → Prop), Good cx S O V a w ρ Z → AgL S R → OgL O RO → V t →
      ∃ v w', (execOp a.eval o).run P w = .ok (.value v) w' ∧ w.grownBy w' none ∧ DO (fun s => if s = t then v else ρ s) Z w' t ob ∧ (∀ g, blk v = some g → w.heap.size ≤ g) ∧
        (∀ s ∈ ob.tags, ¬ V s) ∧ v.oneCell' = true ∧ (x = .ref t 0 → ∃ g, v = .pointer (some ⟨g, 0, none⟩))) : OpX P o R RO [t] [(d, .r (.one x))] [(t, ob)] := by
  intro cx S O V a w hR hO hV hU ⟨ρ, Z, hg⟩ K Q hK
  obtain ⟨v, w', hrun, hgr, hob, hblk, htags, h1, hr⟩ := H cx S O V a w ρ Z hg hR hO hV.1
  unfold Oper.wp
  rw [hrun]
  show K (a.put o.dst v) w'
  rw [hd]
  have hn := hg.new hV.1 hgr hob hblk htags
  refine hK _ _ ⟨_, Z, (hn.put (blt_lt hU.1) ?_ ?_).weak fun s hs => ⟨hs.1, fun e => hs.2 (by simp [e])⟩⟩
  · rcases hx with rfl | rfl
    · exact ⟨by simp, h1⟩
    · obtain ⟨g, rfl⟩ := hr rfl
      exact ⟨g, 0, by simp [Value.place], rfl⟩
  · intro s hs hvs
    rcases hx with rfl | rfl <;> simp [AV.tags, AR.tags, A1.tag] at hs <;> exact hvs.2 hs

theorem da_raw {ρ : Nat → Value} {Z : Nat → Prop} {w : World} {u v : Value} (h : DA ρ Z w (.raw u) v) : v = u := by
  have h' : DC Z w (.raw u) v := h
  cases h'; rfl
theorem da_mk {ρ : Nat → Value} {Z : Nat → Prop} {w : World} {u : Value} (h : u.oneCell' = true) : DA ρ Z w (.raw u) u := DC.raw u h

def InR (n : Int) : Prop := -9223372036854775808 ≤ n ∧ n ≤ 9223372036854775807

variable {d : Nat} {x y z : Operand} {t t' ty : TypeId} {pos : String} {af : Array Edge} {gd : Option (Nat × Bool)}

theorem opx_move (v : AV) : OpX P ⟨some d, .move x, ty, pos, af, gd⟩ [(x, v)] [] [] [(d, v)] [] :=
  opx_val rfl fun cx S O V a w ρ Z hg hR _ => ⟨a.eval x, rfl, hg.ag hR.1, hg.agv hR.1⟩
theorem opx_assign (v : AV) : OpX P ⟨some d, .assign x, ty, pos, af, gd⟩ [(x, v)] [] [] [(d, v)] [] :=
  opx_val rfl fun cx S O V a w ρ Z hg hR _ => ⟨a.eval x, rfl, hg.ag hR.1, hg.agv hR.1⟩

theorem opx_pick_t {b : Bool} (v : AV) (hb : b = true) : OpX P ⟨some d, .pick x y z, ty, pos, af, gd⟩ [(x, .b b), (y, v)] [] [] [(d, v)] [] :=
  opx_val rfl fun cx S O V a w ρ Z hg hR _ => by
    have h1 := da_raw (hg.ag hR.1)
    refine ⟨a.eval y, ?_, hg.ag hR.2.1, hg.agv hR.2.1⟩
    simp [execOp, h1, asBool, hb]
theorem opx_pick_f {b : Bool} (v : AV) (hb : b = false) : OpX P ⟨some d, .pick x y z, ty, pos, af, gd⟩ [(x, .b b), (z, v)] [] [] [(d, v)] [] :=
  opx_val rfl fun cx S O V a w ρ Z hg hR _ => by
    have h1 := da_raw (hg.ag hR.1)
    refine ⟨a.eval z, ?_, hg.ag hR.2.1, hg.agv hR.2.1⟩
    simp [execOp, h1, asBool, hb]

theorem opx_int (op : BinOp) (k : IntKind) (m n : Int) (r : Value) (hr1 : r.oneCell' = true)
    (h : ∀ (w : World) (x y : Operand), (do eqGuard op t x y (.int k m) (.int k n); binOp op t (.int k m) (.int k n) : Sem Value).run P w = .ok r w) :
    OpX P ⟨some d, .binOp op t x y t', ty, pos, af, gd⟩ [(x, .raw (.int k m)), (y, .raw (.int k n))] [] [] [(d, .raw r)] [] :=
  opx_val rfl fun cx S O V a w ρ Z hg hR _ => by
    have h1 := da_raw (hg.ag hR.1)
    have h2 := da_raw (hg.ag hR.2.1)
    refine ⟨r, ?_, da_mk hr1, by simp [AV.tags, AR.tags, A1.tag]⟩
    have := h w x y
    simp only [execOp, h1, h2]
    rw [Sem.run_bind, this]; rfl

theorem wrap_in {n : Int} (h : InR n) : IntKind.i64.wrap n = n := IntWalk.i64_in n h

theorem opx_add {m n : Int} (h : InR (m + n)) : OpX P ⟨some d, .binOp .add t x y t', ty, pos, af, gd⟩ [(x, .i m), (y, .i n)] [] [] [(d, .i (m + n))] [] :=
  opx_int .add .i64 m n _ rfl fun w x y => by simp [eqGuard, binOp, Op.intArith, wrap_in h]
theorem opx_sub {m n : Int} (h : InR (m - n)) : OpX P ⟨some d, .binOp .sub t x y t', ty, pos, af, gd⟩ [(x, .i m), (y, .i n)] [] [] [(d, .i (m - n))] [] :=
  opx_int .sub .i64 m n _ rfl fun w x y => by simp [eqGuard, binOp, Op.intArith, wrap_in h]
theorem opx_mul {m n : Int} (h : InR (m * n)) : OpX P ⟨some d, .binOp .mul t x y t', ty, pos, af, gd⟩ [(x, .i m), (y, .i n)] [] [] [(d, .i (m * n))] [] :=
  opx_int .mul .i64 m n _ rfl fun w x y => by simp [eqGuard, binOp, Op.intArith, wrap_in h]
/-- '/' of a number that is not negative by a positive one. -/
theorem opx_quo {m n : Int} (h : InR m) (h0 : 0 ≤ m) (h1 : 1 ≤ n) : OpX P ⟨some d, .binOp .quo t x y t', ty, pos, af, gd⟩ [(x, .i m), (y, .i n)] [] [] [(d, .i (m / n))] [] :=
  opx_int .quo .i64 m n _ rfl fun w x y => by
    have hn : n ≠ 0 := by omega
    simp [eqGuard, binOp, Op.intDiv, hn, IntWalk.i64_quo m n ⟨h0, h.2, h1⟩]
/-- '/' in general. -/
theorem opx_tdiv {m n : Int} (h : InR (m.tdiv n)) (h1 : n ≠ 0) : OpX P ⟨some d, .binOp .quo t x y t', ty, pos, af, gd⟩ [(x, .i m), (y, .i n)] [] [] [(d, .i (m.tdiv n))] [] :=
  opx_int .quo .i64 m n _ rfl fun w x y => by
    simp [eqGuard, binOp, Op.intDiv, h1, wrap_in h]
theorem opx_rem {m n : Int} (h0 : 0 ≤ m) (h1 : n ≠ 0) : OpX P ⟨some d, .binOp .rem t x y t', ty, pos, af, gd⟩ [(x, .i m), (y, .i n)] [] [] [(d, .i (m % n))] [] :=
  opx_int .rem .i64 m n _ rfl fun w x y => by
    simp [eqGuard, binOp, Op.intDiv, h1, IntWalk.rem_in m n h0]
theorem opx_tmod {m n : Int} (h1 : n ≠ 0) : OpX P ⟨some d, .binOp .rem t x y t', ty, pos, af, gd⟩ [(x, .i m), (y, .i n)] [] [] [(d, .i (m.tmod n))] [] :=
  opx_int .rem .i64 m n _ rfl fun w x y => by
    simp [eqGuard, binOp, Op.intDiv, h1]
theorem opx_bits {op : BinOp} {m n : Int} (hop : op = .xor ∨ op = .and ∨ op = .or) : OpX P ⟨some d, .binOp op t x y t', ty, pos, af, gd⟩ [(x, .i m), (y, .i n)] [] [] [(d, .i (bits op .i64 m n))] [] :=
  opx_int op .i64 m n _ rfl fun w x y => by
    rcases hop with rfl | rfl | rfl <;> simp [eqGuard, binOp, Op.intBits, bits]

theorem opx_lss {k : IntKind} {m n : Int} : OpX P ⟨some d, .binOp .lss t x y t', ty, pos, af, gd⟩ [(x, .raw (.int k m)), (y, .raw (.int k n))] [] [] [(d, .b (decide (m < n)))] [] :=
  opx_int .lss k m n _ rfl fun w x y => by simp [eqGuard, binOp, Op.intCmp]
theorem opx_leq {k : IntKind} {m n : Int} : OpX P ⟨some d, .binOp .leq t x y t', ty, pos, af, gd⟩ [(x, .raw (.int k m)), (y, .raw (.int k n))] [] [] [(d, .b (decide (m ≤ n)))] [] :=
  opx_int .leq k m n _ rfl fun w x y => by simp [eqGuard, binOp, Op.intCmp]
theorem opx_gtr {k : IntKind} {m n : Int} : OpX P ⟨some d, .binOp .gtr t x y t', ty, pos, af, gd⟩ [(x, .raw (.int k m)), (y, .raw (.int k n))] [] [] [(d, .b (decide (n < m)))] [] :=
  opx_int .gtr k m n _ rfl fun w x y => by simp [eqGuard, binOp, Op.intCmp]
theorem opx_geq {k : IntKind} {m n : Int} : OpX P ⟨some d, .binOp .geq t x y t', ty, pos, af, gd⟩ [(x, .raw (.int k m)), (y, .raw (.int k n))] [] [] [(d, .b (decide (n ≤ m)))] [] :=
  opx_int .geq k m n _ rfl fun w x y => by simp [eqGuard, binOp, Op.intCmp]
theorem opx_eql {k : IntKind} {m n : Int} : OpX P ⟨some d, .binOp .eql t x y t', ty, pos, af, gd⟩ [(x, .raw (.int k m)), (y, .raw (.int k n))] [] [] [(d, .b (decide (m = n)))] [] :=
  opx_int .eql k m n _ rfl fun w x y => by simp [eqGuard, binOp, Op.intCmp]; rfl
theorem opx_neq {k : IntKind} {m n : Int} : OpX P ⟨some d, .binOp .neq t x y t', ty, pos, af, gd⟩ [(x, .raw (.int k m)), (y, .raw (.int k n))] [] [] [(d, .b (!decide (m = n)))] [] :=
  opx_int .neq k m n _ rfl fun w x y => by simp [eqGuard, binOp, Op.intCmp]; rfl

theorem opx_str (op : BinOp) (m n : List UInt8) (r : Value) (hr1 : r.oneCell' = true)
    (h : ∀ (w : World) (x y : Operand), (do eqGuard op t x y (.string ⟨m.toArray⟩) (.string ⟨n.toArray⟩); binOp op t (.string ⟨m.toArray⟩) (.string ⟨n.toArray⟩) : Sem Value).run P w = .ok r w) :
    OpX P ⟨some d, .binOp op t x y t', ty, pos, af, gd⟩ [(x, .str m), (y, .str n)] [] [] [(d, .raw r)] [] :=
  opx_val rfl fun cx S O V a w ρ Z hg hR _ => by
    have h1 := da_raw (hg.ag hR.1)
    have h2 := da_raw (hg.ag hR.2.1)
    refine ⟨r, ?_, da_mk hr1, by simp [AV.tags, AR.tags, A1.tag]⟩
    have := h w x y
    simp only [execOp, h1, h2]
    rw [Sem.run_bind, this]; rfl

theorem ba_append (m n : List UInt8) : (⟨m.toArray⟩ : ByteArray) ++ ⟨n.toArray⟩ = ⟨(m ++ n).toArray⟩ := by
  apply ByteArray.ext
  simp

theorem opx_cat {m n : List UInt8} (h : m.length + n.length ≤ 9223372036854775807) : OpX P ⟨some d, .binOp .add t x y t', ty, pos, af, gd⟩ [(x, .str m), (y, .str n)] [] [] [(d, .str (m ++ n))] [] :=
  opx_str .add m n _ rfl fun w x y => by
    have : ¬ (((⟨m.toArray⟩ : ByteArray).size + (⟨n.toArray⟩ : ByteArray).size : Nat) : Int) > IntKind.i64.max := by
      have h1 : (⟨m.toArray⟩ : ByteArray).size = m.length := by simp [ByteArray.size]
      have h2 : (⟨n.toArray⟩ : ByteArray).size = n.length := by simp [ByteArray.size]
      rw [h1, h2]
      have : IntKind.i64.max = 9223372036854775807 := by decide
      rw [this]; omega
    simp only [eqGuard, binOp, Op.stringOp]
    rw [if_neg this, ba_append]
    rfl
theorem opx_seql {m n : List UInt8} : OpX P ⟨some d, .binOp .eql t x y t', ty, pos, af, gd⟩ [(x, .str m), (y, .str n)] [] [] [(d, .b (decide (m = n)))] [] :=
  opx_str .eql m n _ rfl fun w x y => by
    simp only [eqGuard, binOp, Op.stringOp]
    simp
    by_cases h : m = n <;> simp [h]
theorem opx_sneq {m n : List UInt8} : OpX P ⟨some d, .binOp .neq t x y t', ty, pos, af, gd⟩ [(x, .str m), (y, .str n)] [] [] [(d, .b (!decide (m = n)))] [] :=
  opx_str .neq m n _ rfl fun w x y => by
    simp only [eqGuard, binOp, Op.stringOp]
    simp
    by_cases h : m = n <;> simp [h]
/-- 'm ≤ n', 'm < n', byte by byte. -/
def sle (m n : List UInt8) : Bool := Op.bytesLess m n || m == n
def slt (m n : List UInt8) : Bool := Op.bytesLess m n
theorem opx_sleq {m n : List UInt8} : OpX P ⟨some d, .binOp .leq t x y t', ty, pos, af, gd⟩ [(x, .str m), (y, .str n)] [] [] [(d, .b (sle m n))] [] :=
  opx_str .leq m n _ rfl fun w x y => by simp only [eqGuard, binOp, Op.stringOp]; simp [sle]
theorem opx_slss {m n : List UInt8} : OpX P ⟨some d, .binOp .lss t x y t', ty, pos, af, gd⟩ [(x, .str m), (y, .str n)] [] [] [(d, .b (slt m n))] [] :=
  opx_str .lss m n _ rfl fun w x y => by simp only [eqGuard, binOp, Op.stringOp]; simp [slt]
theorem opx_sgtr {m n : List UInt8} : OpX P ⟨some d, .binOp .gtr t x y t', ty, pos, af, gd⟩ [(x, .str m), (y, .str n)] [] [] [(d, .b (!sle m n))] [] :=
  opx_str .gtr m n _ rfl fun w x y => by simp only [eqGuard, binOp, Op.stringOp]; simp [sle]

theorem opx_not {b : Bool} : OpX P ⟨some d, .unOp .not t x, ty, pos, af, gd⟩ [(x, .b b)] [] [] [(d, .b (!b))] [] :=
  opx_val rfl fun cx S O V a w ρ Z hg hR _ => by
    have h1 := da_raw (hg.ag hR.1)
    exact ⟨.bool (!b), by simp [execOp, h1, Op.unary], da_mk rfl, by simp [AV.tags, AR.tags, A1.tag]⟩
theorem opx_neg {m : Int} (h : InR (-m)) : OpX P ⟨some d, .unOp .neg t x, ty, pos, af, gd⟩ [(x, .i m)] [] [] [(d, .i (-m))] [] :=
  opx_val rfl fun cx S O V a w ρ Z hg hR _ => by
    have h1 := da_raw (hg.ag hR.1)
    exact ⟨.int .i64 (-m), by simp [execOp, h1, Op.unary, Op.intArith, wrap_in h], da_mk rfl, by simp [AV.tags, AR.tags, A1.tag]⟩

theorem opx_nilck {t off : Nat} : OpX P ⟨some d, .nilCheck x, ty, pos, af, gd⟩ [(x, .ref t off)] [] [] [(d, .ref t off)] [] :=
  opx_val rfl fun cx S O V a w ρ Z hg hR _ => by
    have h0 := hg.ag hR.1
    obtain ⟨g, o, h1, h2⟩ := h0
    refine ⟨a.eval x, ?_, hg.ag hR.1, hg.agv hR.1⟩
    simp [execOp, h2]
theorem opx_nilck_imm {xs : List CV} : OpX P ⟨some d, .nilCheck x, ty, pos, af, gd⟩ [(x, .imm xs)] [] [] [(d, .imm xs)] [] :=
  opx_val rfl fun cx S O V a w ρ Z hg hR _ => by
    have h0 := hg.ag hR.1
    obtain ⟨b, off, us, h2, _⟩ := h0
    refine ⟨a.eval x, ?_, hg.ag hR.1, hg.agv hR.1⟩
    simp [execOp, h2]

theorem drl_at {ρ : Nat → Value} {Z : Nat → Prop} {w : World} : ∀ {xs : List AR} {us : List Value} {i : Nat} {r : AR}, DRL ρ Z w xs us → xs[i]? = some r → ∃ v, us[i]? = some v ∧ DR ρ Z w r v
  | x :: xs, u :: us, 0, r, h, hi => by cases hi; exact ⟨u, rfl, h.1⟩
  | x :: xs, u :: us, i + 1, r, h, hi => drl_at (xs := xs) (us := us) (i := i) h.2 (by simpa using hi)
  | [], _, _, _, _, hi => by simp at hi
  | _ :: _, [], _, _, h, _ => h.elim

theorem opx_extract {xs : List AR} {i : Nat} (r : AR) (hi : xs[i]? = some r) : OpX P ⟨some d, .extract x i, ty, pos, af, gd⟩ [(x, .tup xs)] [] [] [(d, .r r)] [] :=
  opx_val rfl fun cx S O V a w ρ Z hg hR _ => by
    obtain ⟨us, h1, h2⟩ := hg.ag hR.1
    obtain ⟨v, h3, h4⟩ := drl_at h2 hi
    refine ⟨v, by simp [execOp, h1, Instr.extract, h3], h4, fun t ht => hg.agv hR.1 t ?_⟩
    simp only [AV.tags, List.mem_flatMap]
    exact ⟨r, List.mem_of_getElem? hi, ht⟩
end
end Go.Proofs.YtllgddednlfhfaaDoor
